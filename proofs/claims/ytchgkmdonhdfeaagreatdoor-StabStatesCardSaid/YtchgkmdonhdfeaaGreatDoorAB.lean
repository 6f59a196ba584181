/- Each plain operation of the abstract machine does what the model's operation does (fourth part: places, slices, append). No condition: lemmas only. -/
import Derived.Test.YtchgkmdonhdfeaaGreatDoorAA
import Derived.Deep.Upon
import Derived.Laws.FloatArith
import Derived.Laws.Pointers
import Derived.Laws.Externs
import Derived.KernelRfl
import Derived.MapKept
import Derived.LoopN
import Derived.Laws.Sem
set_option linter.unusedVariables false
set_option linter.unusedSimpArgs false
namespace Go.Proofs.YtchgkmdonhdfeaaGreatDoor.Ab
open Go
section
variable {P:Program}{C:Cx}{O:Orc}{s:AS}{o:Oper}{k:Eff→Foot→Option Res}{r:Res}
theorem add_off (b off n:Nat):(⟨b,off,none⟩:Addr).add n=⟨b,off+n,none⟩:=by
 unfold Addr.add;split
 ·rename_i e;simp [e]
 ·rfl
theorem step_place {F:FS}{θ:Th}{σ:Nat→Option Nat}{a:Act}{w:World}{n lo hi t off d:Nat}{u:Value}(R:Rep P C θ σ F a w)(hd:∀ t,o.dst=some t→t<C.N)(h:TRel θ σ (.lp t off) u)
  (hl:(F.loc t).isSome=true) (hr:∀ b,u=.pointer (some ⟨b,off,none⟩)→(execOp a.eval o).run P w=.ok (.value (.pointer (some ⟨b,off+d,none⟩))) w) :
  StepTo P C θ σ lo hi o a w (F.put o.dst (Eff.v (.lp t (off+d)) n)):=by
 obtain ⟨b,hb,hu⟩:=lp_of h
 exact step_pure R hd (hr b hu) (Chg.refl _ _) ⟨b,hb,rfl⟩ (fun s' off' e=>by cases e;exact hl)
def fieldOff (P:Program)(t:TypeId)(j:Nat)(off:Nat):Bool:=
 match P.underlying t with
 |some (.struct fs)=>match fs[j]? with
  |some f=>Nat.beq f.offset off&&(match P.info? f.type with|some i=>!(Nat.beq i.size 0)|none=>false)
  |none=>false
 |_=>false
theorem fieldOff_run {t:TypeId}{j off:Nat}(h:fieldOff P t j off=true){b q:Nat}{w:World}:(Instr.fieldAt t (.pointer (some ⟨b,q,none⟩)) j).run P w=.ok (.pointer (some ⟨b,q+off,none⟩)) w:=by
 unfold fieldOff at h
 split at h
 ·rename_i fs hfs
  split at h
  ·rename_i f hf
   simp only [Bool.and_eq_true] at h
   have e:=beq_true.1 h.1;subst e
   have h2:=h.2
   split at h2
   ·rename_i i hi
    have hne:¬ i.size=0:=by
     intro q;rw [q] at h2;simp [beq_true.2] at h2
    simp [Instr.fieldAt,run_underlying hfs,hf,Instr.sureAddr,fieldPlace,sizeOf,typeInfo,hi,hne,add_off]
   ·cases h2
  ·cases h
 ·cases h
theorem s_fadr {t:TypeId}{j off:Nat}{x:AX}{x':Operand}(ho:o.op=.fieldAddr t x' j)(ok:okX C.ng x' x=true)(hf:fieldOff P t j off=true)
  (h:evOp O C.fl o.dst (.fadr off x) s k=some r):OpS P C s o (.fadr off x) k r:=by
 simp only [EVO.down] at h
 split at h
 ·rename_i q off' hv
  refine ⟨_,_,h,Nat.le_refl _,fun F θ σ a w R hd ag _ _ _=>?_⟩
  obtain ⟨h1,h2⟩:=xv_rel R ok hv ag
  exact step_place R hd h1 (h2 _ _ rfl) fun b e=>by simp [execOp,ho,e,fieldOff_run hf]
 ·rename_i id off' hv
  refine ⟨_,_,h,Nat.le_refl _,fun F θ σ a w R hd ag _ _ _=>?_⟩
  have h1:=(xv_rel R ok hv ag).1.val rfl
  simp only [VRel] at h1
  obtain ⟨b,o',c,e1,e2⟩:=h1
  exact step_pure' R hd (by simp [execOp,ho,e2,fieldOff_run hf];rfl) (by simp only [VRel];exact ⟨b,o',c,e1,by rw [Nat.add_assoc]⟩)
 ·rename_i cs hv
  refine ⟨_,_,h,Nat.le_refl _,fun F θ σ a w R hd ag _ _ _=>?_⟩
  have h1:=(xv_rel R ok hv ag).1.val rfl
  simp only [VRel] at h1
  obtain ⟨b,o',us,e2,e3,en,e4⟩:=h1
  exact step_pure' R hd (by simp [execOp,ho,e2,fieldOff_run hf];rfl) (by simp only [VRel];exact ⟨b,o'+off,us.drop off,rfl,e3.drop off,nors_drop _ en,e4.drop off⟩)
 ·cases h
theorem part_run {t:TypeId}{sz:Option Nat}{off:Nat}{cs:List AV}{v:AV}{ds:Array Value}{θ:Th}{w:World}(hs:lie P t=some sz)(hv:apart_ cs off sz=some v)(hr:VRels θ cs ds.toList) :
  ∃ u,(part t ds off).run P w=.ok u w∧VRel θ v u:=by
 cases sz with
 |none=>
  simp only [apart_] at hv
  obtain ⟨u,hu,hru⟩:=hr.get hv
  simp at hu
  exact ⟨u,by simp only [part,Sem.run_bind,lie_one hs,Result.andThen_ok,Bool.false_eq_true,if_false,hu,Sem.run_pure],hru⟩
 |some n=>
  simp only [apart_] at hv
  cases hle:Nat.ble (off+n) cs.length with
  |false=>simp [hle] at hv
  |true=>
   simp only [hle,cond_true,Option.some.injEq] at hv
   subst hv
   refine ⟨.agg (ds.extract off (off+n)),by simp only [part,Sem.run_bind,(lie_agg hs).1,(lie_agg (w:=w) hs).2,Result.andThen_ok,if_true,Sem.run_pure],?_⟩
   simp only [VRel]
   refine ⟨_,rfl,?_⟩
   have:=(hr.drop off).take n
   rw [Array.toList_extract,List.extract_eq_take_drop]
   simpa using this
def fieldLie (P:Program)(t:TypeId)(j:Nat)(off:Nat)(sz:Option Nat):Bool:=
 match P.underlying t with
 |some (.struct fs)=>match fs[j]? with
  |some f=>Nat.beq f.offset off&&decide (lie P f.type=some sz)
  |none=>false
 |_=>false
theorem s_fld {t:TypeId}{j off:Nat}{sz:Option Nat}{x:AX}{x':Operand}(ho:o.op=.field t x' j)(ok:okX C.ng x' x=true)(hf:fieldLie P t j off sz=true)
  (h:evOp O C.fl o.dst (.fld off sz x) s k=some r):OpS P C s o (.fld off sz x) k r:=by
 simp only [EVO.down] at h
 split at h
 ·rename_i cs hv
  split at h
  ·rename_i v hp
   refine ⟨_,_,h,Nat.le_refl _,fun F θ σ a w R hd ag _ _ _=>?_⟩
   have h1:=xn_rel R ok hv ag
   simp only [VRel] at h1
   obtain ⟨ds,e,h1⟩:=h1
   unfold fieldLie at hf
   split at hf
   ·rename_i fs hfs
    split at hf
    ·rename_i f hfj
     simp only [Bool.and_eq_true,decide_eq_true_eq] at hf
     have e':=beq_true.1 hf.1;subst e'
     obtain ⟨u,g1,g2⟩:=part_run (P:=P) (w:=w) hf.2 hp h1
     exact step_pure' (u:=u) R hd (by simp [execOp,ho,e,Instr.field,run_underlying hfs,hfj,asAgg,g1]) g2
    ·cases hf
   ·cases hf
  ·cases h
 ·cases h
theorem inb_of {i:Int}{n:Nat}(h:inb i n=true):0≤i∧i<n:=by
 simp only [inb,Bool.and_eq_true,decide_eq_true_eq] at h;exact h
def sliceE (P:Program)(t:TypeId)(esz:Nat):Bool:=
 match P.underlying t with
 |some (.slice e)=>(match P.info? e with|some i=>Nat.beq i.size esz|none=>false)
 |_=>false
theorem sliceE_of {t:TypeId}{esz:Nat}(h:sliceE P t esz=true):∃ e i,P.underlying t=some (.slice e)∧P.info? e=some i∧i.size=esz:=by
 unfold sliceE at h
 split at h
 ·rename_i e he
  split at h
  ·rename_i i hi;exact ⟨e,i,he,hi,beq_true.1 h⟩
  ·cases h
 ·cases h
def arrayE (P:Program)(t:TypeId)(len esz:Nat):Bool:=
 match P.underlying t with
 |some (.array n e)=>Nat.beq n len&&(match P.info? e with|some i=>Nat.beq i.size esz|none=>false)
 |_=>false
theorem arrayE_of {t:TypeId}{len esz:Nat}(h:arrayE P t len esz=true):∃ e i,P.underlying t=some (.array len e)∧P.info? e=some i∧i.size=esz:=by
 unfold arrayE at h
 split at h
 ·rename_i n e he
  simp only [Bool.and_eq_true] at h
  have:=beq_true.1 h.1;subst this
  have h2:=h.2
  split at h2
  ·rename_i i hi;exact ⟨e,i,he,hi,beq_true.1 h2⟩
  ·cases h2
 ·cases h
theorem s_iadr {t:TypeId}{esz:Nat}{x i:AX}{x' i':Operand}(ho:o.op=.indexAddr t x' i')(ok:okX C.ng x' x=true∧okX C.ng i' i=true)(ht:sliceE P t esz=true)
  (h:evOp O C.fl o.dst (.iadr esz x i) s k=some r):OpS P C s o (.iadr esz x i) k r:=by
 simp only [EVO.down] at h
 split at h
 ·rename_i id off len cap hv
  split at h
  ·rename_i ki j hj
   cases hb:inb j len with
   |false=>simp [hb] at h
   |true=>
    simp only [hb,cond_true] at h
    obtain ⟨hb1,hb2⟩:=inb_of hb
    refine ⟨_,_,h,Nat.le_refl _,fun F θ σ a w R hd ag _ _ _=>?_⟩
    have h1:=xn_rel R ok.1 hv ag.left
    have h2:=xn_rel R ok.2 hj ag.right
    simp only [VRel] at h1 h2
    obtain ⟨b,o',c,cap',e1,e2,_⟩:=h1
    obtain ⟨e,inf,g1,g2,g3⟩:=sliceE_of ht
    refine step_pure' (u:=.pointer (some ⟨b,o'+(off+j.toNat*esz),none⟩)) R hd ?_ (by simp only [VRel];exact ⟨b,o',c,e1,rfl⟩)
    simp [execOp,ho,e2,h2,Instr.indexAt,asIntOf,run_underlying g1,hb1,hb2,sizeOf,typeInfo,g2,g3,add_off,Nat.add_assoc]
  ·cases h
 ·rename_i len cap cs hv
  split at h
  ·rename_i ki j hj
   cases hb:inb j len with
   |false=>simp [hb] at h
   |true=>
    simp only [hb,cond_true] at h
    obtain ⟨hb1,hb2⟩:=inb_of hb
    refine ⟨_,_,h,Nat.le_refl _,fun F θ σ a w R hd ag _ _ _=>?_⟩
    have h1:=xn_rel R ok.1 hv ag.left
    have h2:=xn_rel R ok.2 hj ag.right
    simp only [VRel] at h1 h2
    rcases h1 with ⟨b,o',sp,cap',us,e2,hsp,hcl,_,e3,en,e4⟩|⟨_,z,_⟩
    ·obtain rfl:=hsp (by omega)
     obtain ⟨e,inf,g1,g2,g3⟩:=sliceE_of ht
     refine step_pure' (u:=.pointer (some ⟨b,o'+j.toNat*esz,none⟩)) R hd ?_ (by simp only [VRel];exact ⟨b,_,_,rfl,e3.drop _,nors_drop _ en,e4.drop _⟩)
     simp [execOp,ho,e2,h2,Instr.indexAt,asIntOf,run_underlying g1,hb1,hb2,sizeOf,typeInfo,g2,g3,add_off,Nat.add_assoc]
    ·omega
  ·cases h
 ·cases h
theorem s_iadra {t:TypeId}{len esz:Nat}{x i:AX}{x' i':Operand}(ho:o.op=.indexAddr t x' i')(ok:okX C.ng x' x=true∧okX C.ng i' i=true)(ht:arrayE P t len esz=true)
  (h:evOp O C.fl o.dst (.iadra esz len x i) s k=some r):OpS P C s o (.iadra esz len x i) k r:=by
 simp only [EVO.down] at h
 split at h
 ·rename_i ki j hj
  cases hb:inb j len with
  |false=>simp [hb] at h
  |true=>
   simp only [hb,cond_true] at h
   obtain ⟨hb1,hb2⟩:=inb_of hb
   obtain ⟨e,inf,g1,g2,g3⟩:=arrayE_of ht
   split at h
   ·rename_i q off hv
    refine ⟨_,_,h,Nat.le_refl _,fun F θ σ a w R hd ag _ _ _=>?_⟩
    have h2:=xn_rel R ok.2 hj ag.right
    simp only [VRel] at h2
    obtain ⟨h1,h3⟩:=xv_rel R ok.1 hv ag.left
    exact step_place R hd h1 (h3 _ _ rfl) fun b e=>by
     simp [execOp,ho,e,h2,Instr.indexAt,asIntOf,run_underlying g1,hb1,hb2,Instr.sureAddr,sizeOf,typeInfo,g2,g3,add_off]
   ·rename_i id off hv
    refine ⟨_,_,h,Nat.le_refl _,fun F θ σ a w R hd ag _ _ _=>?_⟩
    have h2:=xn_rel R ok.2 hj ag.right
    have h1:=(xv_rel R ok.1 hv ag.left).1.val rfl
    simp only [VRel] at h1 h2
    obtain ⟨b,o',c,e1,e2⟩:=h1
    refine step_pure' (u:=.pointer (some ⟨b,o'+(off+j.toNat*esz),none⟩)) R hd ?_ (by simp only [VRel];exact ⟨b,o',c,e1,rfl⟩)
    simp [execOp,ho,e2,h2,Instr.indexAt,asIntOf,run_underlying g1,hb1,hb2,Instr.sureAddr,sizeOf,typeInfo,g2,g3,add_off,Nat.add_assoc]
   ·rename_i cs hv
    refine ⟨_,_,h,Nat.le_refl _,fun F θ σ a w R hd ag _ _ _=>?_⟩
    have h2:=xn_rel R ok.2 hj ag.right
    have h1:=(xv_rel R ok.1 hv ag.left).1.val rfl
    simp only [VRel] at h1 h2
    obtain ⟨b,o',us,e2,e3,en,e4⟩:=h1
    refine step_pure' (u:=.pointer (some ⟨b,o'+j.toNat*esz,none⟩)) R hd ?_ (by simp only [VRel];exact ⟨b,_,_,rfl,e3.drop _,nors_drop _ en,e4.drop _⟩)
    simp [execOp,ho,e2,h2,Instr.indexAt,asIntOf,run_underlying g1,hb1,hb2,Instr.sureAddr,sizeOf,typeInfo,g2,g3,add_off,Nat.add_assoc]
   ·cases h
 ·cases h
def idxOk (P:Program)(t:TypeId)(len esz:Nat)(ag:Bool):Bool:=
 match P.underlying t with
 |some (.array n e)=>Nat.beq n len&&(match P.info? e with|some i=>Nat.beq i.size esz|none=>false)&&decide (lie P e=some (bif ag then some esz else none))
 |_=>false
theorem s_idx {t:TypeId}{len esz:Nat}{agg:Bool}{x i:AX}{x' i':Operand}(ho:o.op=.index t x' i')(ok:okX C.ng x' x=true∧okX C.ng i' i=true)(ht:idxOk P t len esz agg=true)
  (h:evOp O C.fl o.dst (.idx esz agg len x i) s k=some r):OpS P C s o (.idx esz agg len x i) k r:=by
 simp only [EVO.down] at h
 split at h
 ·rename_i cs hv
  split at h
  ·rename_i ki j hj
   cases hb:inb j len with
   |false=>simp [hb] at h
   |true=>
    simp only [hb,cond_true] at h
    obtain ⟨hb1,hb2⟩:=inb_of hb
    split at h
    ·rename_i v hp
     refine ⟨_,_,h,Nat.le_refl _,fun F θ σ a w R hd ag _ _ _=>?_⟩
     have h1:=xn_rel R ok.1 hv ag.left
     have h2:=xn_rel R ok.2 hj ag.right
     simp only [VRel] at h1 h2
     obtain ⟨ds,e,h1⟩:=h1
     unfold idxOk at ht
     split at ht
     ·rename_i n el hu
      simp only [Bool.and_eq_true,decide_eq_true_eq] at ht
      obtain ⟨⟨t1,t2⟩,t3⟩:=ht
      have t1:=beq_true.1 t1;subst t1
      split at t2
      ·rename_i inf hi
       have t2:=beq_true.1 t2;subst t2
       obtain ⟨u,g1,g2⟩:=part_run (P:=P) (w:=w) t3 hp h1
       exact step_pure' (u:=u) R hd (by simp [execOp,ho,e,h2,Instr.index,asIntOf,run_underlying hu,hb1,hb2,sizeOf,typeInfo,hi,g1]) g2
      ·cases t2
     ·cases ht
    ·cases h
  ·cases h
 ·cases h
theorem s_idxs {t:TypeId}{x i:AX}{x' i':Operand}(ho:o.op=.index t x' i')(ok:okX C.ng x' x=true∧okX C.ng i' i=true)(ht:P.underlying t=some .string)
  (h:evOp O C.fl o.dst (.idxs x i) s k=some r):OpS P C s o (.idxs x i) k r:=by
 simp only [EVO.down] at h
 split at h
 ·rename_i b hv
  split at h
  ·rename_i ki j hj
   split at h
   ·rename_i h0
    split at h
    ·rename_i c hc
     refine ⟨_,_,h,Nat.le_refl _,fun F θ σ a w R hd ag _ _ _=>?_⟩
     have h1:=xn_rel R ok.1 hv ag.left
     have h2:=xn_rel R ok.2 hj ag.right
     simp only [VRel] at h1 h2
     exact step_pure' (u:=.int .u8 c.toNat) R hd (by simp [execOp,ho,h1,h2,Instr.index,asIntOf,run_underlying ht,h0,hc]) (by simp [VRel])
    ·cases h
   ·cases h
  ·cases h
 ·cases h
theorem bound_run {F:FS}{θ:Th}{σ:Nat→Option Nat}{a:Act}{w:World}(R:Rep P C θ σ F a w){fr:List (Nat×AV)}{x:AX}{x':Operand}{dflt lim m y:Nat}{code:BoundsCode}(ok:okX C.ng x' x=true)
  (h:abound fr (some x) dflt lim=some m) (ag:AgT F fr x.rd) (hy:lim≤y):(Instr.sliceBound (a.eval x') y code).run P w=.ok m w∧m≤lim:=by
 simp only [abound] at h
 split at h
 ·rename_i k i hv
  split at h
  ·rename_i hi
   simp only [Option.some.injEq] at h;subst h
   have h1:=xn_rel R ok hv ag
   simp only [VRel] at h1
   have:i≤y:=by omega
   exact ⟨by simp [Instr.sliceBound,h1,asIntOf,hi.1,this],by omega⟩
  ·cases h
 ·cases h
def okXo (ng:Nat):Option Operand→Option AX→Bool
 |none,none=>true
 |some x,some y=>okX ng x y
 |_,_=>false
theorem bounds_run {F:FS}{θ:Th}{σ:Nat→Option Nat}{a:Act}{w:World}(R:Rep P C θ σ F a w){fr:List (Nat×AV)}{lo hi mx:Option AX}{lo' hi' mx':Option Operand}{len cap' m hh l:Nat}
  (ok:okXo C.ng lo' lo=true∧okXo C.ng hi' hi=true∧okXo C.ng mx' mx=true) (hmh:mx.isSome=true→hi.isSome=true) (hc:len≤cap')
  (h1:abound fr mx len len=some m) (h2:abound fr hi len (pickm mx len m)=some hh) (h3:abound fr lo 0 hh=some l)
  (ag:AgT F fr (AX.ord lo++AX.ord hi++AX.ord mx)) :
  (Instr.sliceBounds true len cap' (lo'.map a.eval) (hi'.map a.eval) (mx'.map a.eval)).run P w=.ok (l,hh,pickm mx cap' m) w∧l≤hh∧hh≤len∧(mx.isSome=true→hh≤m∧m≤len):=by
 obtain ⟨ok1,ok2,ok3⟩:=ok
 have step:∀ {x':Option Operand} {x:Option AX} {dflt lim m':Nat},okXo C.ng x' x=true→abound fr x dflt lim=some m'→AgT F fr (AX.ord x)→
   (x'=none∧x=none∧m'=dflt)∨(∃ y' y,x'=some y'∧x=some y∧m'≤lim∧∀ (lim':Nat) code,lim≤lim'→(Instr.sliceBound (a.eval y') lim' code).run P w=.ok m' w):=by
  intro x' x dflt lim m' ok h ag
  cases x' with
  |none=>cases x with
   |none=>simp only [abound,Option.some.injEq] at h;exact .inl ⟨rfl,rfl,h.symm⟩
   |some y=>simp [okXo] at ok
  |some y'=>cases x with
   |none=>simp [okXo] at ok
   |some y=>
    simp only [okXo] at ok
    exact .inr ⟨y',y,rfl,rfl,(bound_run R (y:=lim) (code:=.index) ok h ag (Nat.le_refl _)).2,fun lim' code hl=>(bound_run R ok h ag hl).1⟩
 have s1:=step ok3 h1 ag.right
 have s2:=step ok2 h2 ag.left.right
 have s3:=step ok1 h3 ag.left.left
 rcases s1 with ⟨rfl,rfl,rfl⟩|⟨y',y,rfl,rfl,hm,r1⟩
 ·rcases s2 with ⟨rfl,rfl,rfl⟩|⟨z',z,rfl,rfl,hz,r2⟩
  ·rcases s3 with ⟨rfl,rfl,rfl⟩|⟨q',q,rfl,rfl,hq,r3⟩
   ·exact ⟨by simp [pickm,Instr.sliceBounds],Nat.zero_le _,Nat.le_refl _,by simp⟩
   ·exact ⟨by simp [pickm,Instr.sliceBounds,r3 _ _ (Nat.le_refl _)],hq,Nat.le_refl _,by simp⟩
  ·rcases s3 with ⟨rfl,rfl,rfl⟩|⟨q',q,rfl,rfl,hq,r3⟩
   ·exact ⟨by simp [pickm,Instr.sliceBounds,r2 cap' _ (by simpa [pickm] using hc)],Nat.zero_le _,hz,by simp⟩
   ·exact ⟨by simp [pickm,Instr.sliceBounds,r2 cap' _ (by simpa [pickm] using hc),r3 _ _ (Nat.le_refl _)],hq,hz,by simp⟩
 ·rcases s2 with ⟨rfl,rfl,rfl⟩|⟨z',z,rfl,rfl,hz,r2⟩
  ·simp at hmh
  ·simp only [pickm] at hz
   rcases s3 with ⟨rfl,rfl,rfl⟩|⟨q',q,rfl,rfl,hq,r3⟩
   ·exact ⟨by simp [pickm,Instr.sliceBounds,r1 cap' _ hc,r2 m _ (Nat.le_refl _)],Nat.zero_le _,by omega,fun _=>⟨hz,hm⟩⟩
   ·exact ⟨by simp [pickm,Instr.sliceBounds,r1 cap' _ hc,r2 m _ (Nat.le_refl _),r3 _ _ (Nat.le_refl _)],hq,by omega,fun _=>⟨hz,hm⟩⟩
theorem s_slc {t:TypeId}{esz:Nat}{x:AX}{lo hi mx:Option AX}{x':Operand}{lo' hi' mx':Option Operand}(ho:o.op=.slice t x' lo' hi' mx')(ok:okX C.ng x' x=true)
  (ok2:okXo C.ng lo' lo=true∧okXo C.ng hi' hi=true∧okXo C.ng mx' mx=true) (hmh:(!mx.isSome||hi.isSome)=true) (ht:sliceE P t esz=true)
  (h:evOp O C.fl o.dst (.slc esz x lo hi mx) s k=some r):OpS P C s o (.slc esz x lo hi mx) k r:=by
 obtain ⟨e,inf,t1,t2,t3⟩:=sliceE_of ht
 have hmh:mx.isSome=true→hi.isSome=true:=fun q=>by rw [q] at hmh;simpa using hmh
 simp only [EVO.down] at h
 split at h
 ·rename_i pa len cap hv
  split at h
  ·rename_i m hm
   split at h
   ·rename_i hh hhh
    split at h
    ·rename_i l hl
     have key:∀ {F:FS} {θ:Th} {σ:Nat→Option Nat} {a:Act} {w:World},Rep P C θ σ F a w→AgT F s.fr (AOp.slc esz x lo hi mx).rd→∀ (a0:Option Addr) (cap':Nat),a.eval x'=.slice a0 len cap'→len≤cap'→∀ q,q=pickm mx cap' m→
       (execOp a.eval o).run P w=.ok (.value (.slice (if q=l then a0 else a0.map (·.add (l*esz))) (hh-l) (q-l))) w∧l≤hh∧hh≤len∧(mx.isSome=true→hh≤m∧m≤len):=by
      intro F θ σ a w R ag a0 cap' e1 hc q hq
      subst hq
      have ag':AgT F s.fr (AX.ord lo++AX.ord hi++AX.ord mx):=fun q hq=>ag q (by
       simp only [AOp.rd,List.append_assoc,List.mem_append] at hq ⊢
       exact .inr hq)
      obtain ⟨b1,b2,b3,b4⟩:=bounds_run R ok2 hmh hc hm hhh hl ag'
      refine ⟨?_,b2,b3,b4⟩
      simp [execOp,ho,e1,Instr.sliceAt,run_underlying t1,Instr.slice,b1,sizeOf,typeInfo,t2,t3]
     cases pa with
     |none=>
      simp only at h
      refine ⟨_,_,h,Nat.le_refl _,fun F θ σ a w R hd ag _ _ _=>?_⟩
      have h1:=xn_rel R ok hv ag.left.left.left
      simp only [VRel] at h1
      obtain ⟨e1,e2,e3⟩:=h1
      have key:=key R ag none 0 (by rw [e3,e1]) (by omega)
      obtain ⟨_,b2,b3,b4⟩:=key _ rfl
      have z1:hh=0:=by omega
      have z2:l=0:=by omega
      subst z1;subst z2
      have z3:pickm mx 0 m=0:=by
       cases mx with
       |none=>rfl
       |some _=>have:=b4 rfl;simp only [pickm];omega
      obtain ⟨b1,_⟩:=key 0 z3.symm
      exact step_pure' (u:=.slice none 0 0) R hd (by rw [b1];simp) (by simp [VRel])
     |some p=>
      obtain ⟨id,off⟩:=p
      simp only at h
      cases hg:slcOk mx cap l len with
      |false=>rw [hg] at h;simp at h
      |true=>
       rw [hg,cond_true] at h
       refine ⟨_,_,h,Nat.le_refl _,fun F θ σ a w R hd ag _ _ _=>?_⟩
       have h1:=xn_rel R ok hv ag.left.left.left
       simp only [VRel] at h1
       obtain ⟨b,o',c,cap',e1,e2,e3,e4⟩:=h1
       have key:=key R ag (some ⟨b,o'+off,none⟩) cap' e2 e3
       simp only [Option.map_some,add_off] at key
       obtain ⟨_,b2,b3,b4⟩:=key _ rfl
       cases mx with
       |some y=>
        have b5:=b4 rfl
        refine step_pure' R hd (key m rfl).1 ?_
        simp only [VRel,slcOff,slcCap]
        by_cases q:m=l
        ·subst q
         refine ⟨b,o',c,m-m,e1,?_,by omega,rfl⟩
         simp [beq_true.2]
        ·refine ⟨b,o',c,m-l,e1,?_,by omega,rfl⟩
         rw [if_neg q,beq_false.2 q,cond_false,Nat.add_assoc]
       |none=>
        refine step_pure' R hd (key cap' rfl).1 ?_
        cases cap with
        |ex n=>
         simp only at e4;subst e4
         simp only [VRel,slcOff,slcCap]
         by_cases q:cap'=l
         ·subst q
          refine ⟨b,o',c,_,e1,?_,by omega,rfl⟩
          simp [beq_true.2]
         ·refine ⟨b,o',c,_,e1,?_,by omega,rfl⟩
          rw [if_neg q,beq_false.2 q,cond_false,Nat.add_assoc]
        |op=>
         simp only [slcOk] at e4 hg
         have hlt:l<len:=by rw [Nat.blt_eq] at hg;exact hg
         obtain ⟨rfl,rfl⟩:=e4
         simp only [VRel,slcOff,slcCap]
         have q:¬ cap'=l:=by omega
         by_cases z:l=0
         ·subst z
          refine ⟨b,o',cap',cap',e1,?_,by omega,?_⟩
          ·simp
          ·simp [beq_true.2]
         ·refine ⟨b,o',cap',cap'-l,e1,?_,by omega,?_⟩
          ·rw [if_neg q,Nat.add_assoc]
          ·simp [beq_false.2 z]
        |unk=>
         simp only [slcOk] at e4 hg
         have hlt:l<len:=by rw [Nat.blt_eq] at hg;exact hg
         simp only [VRel,slcOff,slcCap]
         have q:¬ cap'=l:=by omega
         refine ⟨b,o',c,cap'-l,e1,?_,by omega,trivial⟩
         rw [if_neg q,Nat.add_assoc]
    ·cases h
   ·cases h
  ·cases h
 ·rename_i len cap cs hv
  split at h
  ·rename_i m hm
   split at h
   ·rename_i hh hhh
    split at h
    ·rename_i l hl
     refine ⟨_,_,h,Nat.le_refl _,fun F θ σ a w R hd ag _ _ _=>?_⟩
     have key:∀ (a0:Option Addr) (cap':Nat),a.eval x'=.slice a0 len cap'→len≤cap'→∀ q,q=pickm mx cap' m→
       (execOp a.eval o).run P w=.ok (.value (.slice (if q=l then a0 else a0.map (·.add (l*esz))) (hh-l) (q-l))) w∧l≤hh∧hh≤len∧(mx.isSome=true→hh≤m∧m≤len):=by
      intro a0 cap' e1 hc q hq
      subst hq
      have ag':AgT F s.fr (AX.ord lo++AX.ord hi++AX.ord mx):=fun q hq=>ag q (by
       simp only [AOp.rd,List.append_assoc,List.mem_append] at hq ⊢
       exact .inr hq)
      obtain ⟨b1,b2,b3,b4⟩:=bounds_run R ok2 hmh hc hm hhh hl ag'
      refine ⟨?_,b2,b3,b4⟩
      simp [execOp,ho,e1,Instr.sliceAt,run_underlying t1,Instr.slice,b1,sizeOf,typeInfo,t2,t3]
     have h1:=xn_rel R ok hv ag.left.left.left
     simp only [VRel] at h1
     rcases h1 with ⟨b,o',sp,cap',us,e1,hsp,e2,e3,e4,en,e5⟩|⟨e1,rfl,rfl,e3⟩
     ·have key:=key _ _ e1 e2
      simp only [Option.map_some] at key
      obtain ⟨k1,b2,b3,b4⟩:=key _ rfl
      refine step_pure' R hd k1 ?_
      simp only [VRel]
      refine .inl ?_
      have hcap:(slcCapV mx cap m l).is (pickm mx cap' m-l):=by
       cases mx with
       |some y=>rfl
       |none=>
        cases cap with
        |ex n=>simp only [ACap.is] at e3;subst e3;rfl
        |op=>exact e3.elim
        |unk=>trivial
      have hle:hh-l≤pickm mx cap' m-l:=by
       cases mx with
       |some y=>have:=b4 rfl;simp only [pickm];omega
       |none=>simp only [pickm];omega
      by_cases q:pickm mx cap' m=l
      ·have z:hh-l=0:=by omega
       refine ⟨b,o',sp,_,[],by rw [if_pos q],(fun z=>by omega),hle,hcap,fun i u e=>by simp at e,nors_take _ (nors_drop _ en),?_⟩
       rw [z];simp [VRels]
      ·obtain rfl:=hsp (by
        cases mx with
        |none=>simp only [pickm] at q;omega
        |some y=>have:=b4 rfl;simp only [pickm] at q;omega)
       simp only [add_off] at *
       refine ⟨b,o'+l*esz,none,_,(us.drop (l*esz)).take ((hh-l)*esz),by rw [if_neg q],(fun _=>rfl),hle,hcap,(e4.drop _).take _,nors_take _ (nors_drop _ en),(e5.drop _).take _⟩
     ·have key:=key none 0 e1 (Nat.le_refl _)
      obtain ⟨k1,b2,b3,b4⟩:=key _ rfl
      have z1:hh=0:=by omega
      have z2:l=0:=by omega
      subst z1;subst z2
      have z3:pickm mx 0 m=0:=by
       cases mx with
       |none=>rfl
       |some _=>have:=b4 rfl;simp only [pickm];omega
      rw [z3] at k1
      refine step_pure' (u:=.slice none 0 0) R hd (by rw [k1];simp) ?_
      simp only [VRel]
      refine .inr ⟨by simp,by simp,by simp,?_⟩
      cases mx with
      |some y=>simp only [slcCapV,ACap.is];have:=b4 rfl;omega
      |none=>
       cases cap with
       |ex n=>simp only [ACap.is] at e3;subst e3;rfl
       |op=>exact e3.elim
       |unk=>trivial
    ·cases h
   ·cases h
  ·cases h
 ·cases h
def mksOk (P:Program)(t:TypeId)(ety:TypeId)(esz bytes:Nat)(z:List AV):Bool:=
 match P.underlying t with
 |some (.slice e)=>Nat.beq e ety&&zeroOk P ety z&&(match P.info? ety with|some i=>Nat.beq i.size esz&&Nat.beq i.bytes bytes|none=>false) && !(Nat.beq esz 0)
 |_=>false
theorem madeCells_rel {θ:Th}{z:List AV}{v:Array Value}(h:VRels θ z v.toList)(n:Nat)(hz:0<v.size):VRels θ (List.replicate n z).flatten (madeCells v (n*v.size)).toList:=by
 have hl:z.length=v.size:=by have:=h.length;simpa using this.symm
 refine VRels.mk (by simp [madeCells,hl]) fun j x y hx hy=>?_
 have hj:j<n*v.size:=by
  have:=(List.getElem?_eq_some_iff.1 hy).1
  simpa [madeCells] using this
 have hy':v[j % v.size]? = some y:=by
  simp [madeCells,hj] at hy
  rw [← hy]
  have:j % v.size<v.size:=Nat.mod_lt _ hz
  simp [this]
 have hx':z[j % v.size]? = some x:=by
  have:∀ (n j:Nat),j<n*z.length→(List.replicate n z).flatten[j]? = z[j % z.length]?:=by
   intro n
   induction n with
   |zero=>intro j hj;simp at hj
   |succ n ih=>
    intro j hj
    simp only [List.replicate_succ,List.flatten_cons]
    rcases Nat.lt_or_ge j z.length with q|q
    ·rw [List.getElem?_append_left q,Nat.mod_eq_of_lt q]
    ·rw [List.getElem?_append_right q,ih (j-z.length) (by rw [Nat.succ_mul] at hj;omega)]
     rw [Nat.mod_eq_sub_mod q]
  rw [this n j (by rw [hl];exact hj),hl] at hx
  exact hx
 obtain ⟨u,hu,hr⟩:=h.get hx'
 have:y=u:=by simp at hu;rw [hy'] at hu;cases hu;rfl
 rw [this];exact hr
theorem s_mks {t ety:TypeId}{esz bytes:Nat}{z:List AV}{x y:AX}{x' y':Operand}(ho:o.op=.makeSlice t x' y')(ok:okX C.ng x' x=true∧okX C.ng y' y=true)(ht:mksOk P t ety esz bytes z=true)
  (h:evOp O C.fl o.dst (.mks ety esz bytes z x y) s k=some r):OpS P C s o (.mks ety esz bytes z x y) k r:=by
 simp only [EVO.down] at h
 split at h
 ·rename_i k1 l hv
  split at h
  ·rename_i k2 c hu
   split at h
   ·rename_i hc
    refine ⟨_,_,h,by simp,fun F θ σ a w R hd ag _ _ hf=>?_⟩
    have h1:=xn_rel R ok.1 hv ag.left
    have h2:=xn_rel R ok.2 hu ag.right
    simp only [VRel] at h1 h2
    unfold mksOk at ht
    split at ht
    ·rename_i e hte
     simp only [Bool.and_eq_true] at ht
     obtain ⟨⟨⟨t1,t2⟩,t3⟩,t4⟩:=ht
     have t1:=beq_true.1 t1;subst t1
     obtain ⟨i,v,i1,i2,i3,i4⟩:=zeroOk_of t2
     rw [i1] at t3
     simp only [Bool.and_eq_true] at t3
     have t5:=beq_true.1 t3.1;have t6:=beq_true.1 t3.2
     subst t5;subst t6
     have hpos:0<i.size:=by
      rcases Nat.eq_zero_or_pos i.size with q|q
      ·rw [q] at t4;simp [beq_true.2] at t4
      ·exact q
     have hrun:=run_make (P:=P) w t e i v hte i1 i2 k1 k2 l c hc.1 hc.2.1 (by omega) (by omega)
     have hrel:=madeCells_rel (i4 θ) c.toNat (by omega)
     rw [i3] at hrel
     have:=arr_of hrel
     refine step_new (c:=0) (x:=⟨true,false,e,i.size,(List.replicate c.toNat z).flatten⟩) R hd hf rfl ⟨this.1,this.2.1,by simpa using this.2.2⟩ (Chg.refl _ _)
      (fun θ' e=>by simp only [VRel];exact ⟨_,_,_,_,e,rfl,by omega,rfl⟩) (by simp [execOp,ho,h1,h2,hrun])
    ·cases ht
   ·cases h
  ·cases h
 ·cases h
end
end Go.Proofs.YtchgkmdonhdfeaaGreatDoor.Ab
/- Each operation of the abstract machine does what the model's operation does (fifth part: append). No condition: lemmas only. -/
set_option linter.unusedVariables false
set_option linter.unusedSimpArgs false
namespace Go.Proofs.YtchgkmdonhdfeaaGreatDoor.Ab
open Go
section
variable {P:Program}{C:Cx}{O:Orc}{s:AS}{o:Oper}{k:Eff→Foot→Option Res}{r:Res}
def appOk (P:Program)(t ety:TypeId)(esz bytes:Nat):Bool:=
 match P.underlying t,P.info? ety with
 |some (.slice e),some i=>Nat.beq e ety&&Nat.beq i.size esz&&Nat.beq i.bytes bytes && !(Nat.beq esz 0) && !(Nat.beq bytes 0)&&(match i.zero with|some z=>Nat.beq z.cells.size esz|none=>false)
 |_,_=>false
theorem nb {n:Nat}(h:(!(Nat.beq n 0))=true):0<n:=by
 rcases Nat.eq_zero_or_pos n with q|q
 ·subst q;simp [beq_true.2] at h
 ·exact q
theorem appOk_of {t ety:TypeId}{esz bytes:Nat}(h:appOk P t ety esz bytes=true) :
  ∃ i z,P.underlying t=some (.slice ety)∧P.info? ety=some i∧i.zero=some z∧i.size=esz∧i.bytes=bytes∧z.cells.size=esz∧0<esz∧0<bytes:=by
 unfold appOk at h
 split at h
 ·rename_i e i hu hi
  simp only [Bool.and_eq_true] at h
  obtain ⟨⟨⟨⟨⟨h1,h2⟩,h3⟩,h4⟩,h5⟩,h6⟩:=h
  have h1:=beq_true.1 h1;subst h1
  split at h6
  ·rename_i z hz
   exact ⟨i,z,hu,hi,hz,beq_true.1 h2,beq_true.1 h3,beq_true.1 h6,nb h4,nb h5⟩
  ·cases h6
 ·cases h
theorem app_run {t:TypeId}{x' y':Operand}{u:Value}{w' w:World}{a:Act}(ho:o.op=.call { callee:=.builtin .append,args:=#[x',y'],argTypes:=#[t,t] })
  (h:(Builtin.append_ #[t,t] o.type #[a.eval x',a.eval y']).run P w=.ok u w'):(execOp a.eval o).run P w=.ok (.value u) w':=by
 simp only [execOp,ho,resolve,invoke,builtin,Sem.run_bind,Sem.run_pure,Result.andThen_ok,List.map_toArray,List.map_cons,List.map_nil,h]
theorem cells_at {θ:Th}{x:ABlk}{b o c off n:Nat}{w:World}(h:BRel P θ x b o c w)(hn:off+n≤x.cells.length) :
  ∃ us:List Value,us.length=n∧VRels θ ((x.cells.drop off).take n) us∧∀ (j:Nat) u,us[j]? = some u→w.cell? ((⟨b,o+off,none⟩:Addr).add j)=some u:=by
 induction n with
 |zero=>exact ⟨[],rfl,by simp [VRels],by simp⟩
 |succ n ih=>
  obtain ⟨us,h1,h2,h3⟩:=ih (by omega)
  have hlt:off+n<x.cells.length:=by omega
  obtain ⟨u,hu,hr⟩:=h.at P (List.getElem?_eq_getElem hlt)
  refine ⟨us++[u],by simp [h1],?_,fun j y hy=>?_⟩
  ·have e:(x.cells.drop off).take (n+1)=(x.cells.drop off).take n++[x.cells[off+n]]:=by
    rw [List.take_succ_eq_append_getElem (by simp;omega)]
    simp
   rw [e]
   exact h2.append (by simp only [VRels];exact ⟨u,[],rfl,hr,rfl⟩)
  ·rw [List.getElem?_append] at hy
   split at hy
   ·exact h3 j y hy
   ·rename_i hj
    have:j=n:=by
     have:=(List.getElem?_eq_some_iff.1 hy).1
     simp at this;omega
    subst this
    simp [h1] at hy;subst hy
    rw [add_off,show o+off+j=o+(off+j) by omega];exact hu
theorem oldCells_of {h:AHeap}{id off n:Nat}{cs:List AV}(hc:oldCells h id off n=some cs):∃ x,hget h id=some x∧off+n≤x.cells.length∧cs=(x.cells.drop off).take n:=by
 unfold oldCells at hc
 split at hc
 ·cases hc
 ·rename_i x hx
  cases hb:Nat.ble (off+n) x.cells.length with
  |false=>simp [hb] at hc
  |true=>
   simp only [hb,cond_true,Option.some.injEq] at hc
   exact ⟨x,hx,Nat.le_of_ble_eq_true hb,hc.symm⟩
theorem newCells_of {h:AHeap}{b:Option (Nat×Nat)}{n ib:Nat}{cs:List AV}(hc:newCells h b n=some (ib,cs)) :
  ∃ ob x,b=some (ib,ob)∧hget h ib=some x∧ob+n≤x.cells.length∧cs=(x.cells.drop ob).take n∧cs.all AV.one=true:=by
 unfold newCells at hc
 split at hc
 ·cases hc
 ·rename_i ib' ob
  split at hc
  ·cases hc
  ·rename_i x hx
   cases hb:(Nat.ble (ob+n) x.cells.length&&((x.cells.drop ob).take n).all AV.one) with
   |false=>simp [hb] at hc
   |true=>
    simp only [hb,cond_true,Option.some.injEq,Prod.mk.injEq] at hc
    simp only [Bool.and_eq_true] at hb
    obtain ⟨rfl,rfl⟩:=hc
    exact ⟨ob,x,rfl,hx,Nat.le_of_ble_eq_true hb.1,rfl,hb.2⟩
theorem ownAt_of {fl:Nat}{h:AHeap}{id:Nat}{x:ABlk}(hc:ownAt fl h id=some x):hget h id=some x∧x.own=true∧fl≤id:=by
 unfold ownAt at hc
 split at hc
 ·rename_i y hy
  cases hb:(y.own&&Nat.ble fl id) with
  |false=>simp [hb] at hc
  |true=>
   simp only [hb,cond_true,Option.some.injEq] at hc
   subst hc
   simp only [Bool.and_eq_true] at hb
   exact ⟨hy,hb.1,Nat.le_of_ble_eq_true hb.2⟩
 ·cases hc
theorem zeroCells_size (z:Array Value)(n:Nat):(Builtin.zeroCells z n).size=n*z.size:=by simp [Builtin.zeroCells]
theorem grown_row {θ:Th}{olds news:List Value}{cs:List AV}{esz need old:Nat}{ety:TypeId}{i:TypeInfo}{z:Value}{w:World}(hi:P.info? ety=some i)(h1:i.size=esz)(hz:z.cells.size=esz)
  (hr:VRels θ cs (olds++news)) (hl:(olds++news).length=need*esz) (hm:need≤maxLen) (arr:Array Value) (ha:arr=olds.toArray++news.toArray++Builtin.zeroCells z.cells (grownCap w need old ety-need)) :
  cs.length≤arr.size∧VRels θ cs (arr.toList.take cs.length)∧(if (⟨true,true,ety,esz,cs⟩:ABlk).opn=true then arr.size=grownCap w need old ety*P.cellsOf ety∧grownCap w need old ety≤maxLen else arr.size=cs.length):=by
 have hg:=grownCap_ge w need old ety
 have hg2:=grownCap_le_maxLen w need old ety hm
 have hlen:=hr.length
 have hsz:arr.size=grownCap w need old ety*esz:=by
  rw [ha]
  simp only [Array.size_append,List.size_toArray,zeroCells_size,hz]
  simp only [List.length_append] at hl
  rw [hl,← Nat.add_mul];congr 1;omega
 refine ⟨?_,?_,?_⟩
 ·rw [hsz,← hlen,hl];exact Nat.mul_le_mul_right _ hg
 ·have e:arr.toList=(olds++news)++(Builtin.zeroCells z.cells (grownCap w need old ety-need)).toList:=by
   rw [ha];simp [List.append_assoc]
  rw [e,← hlen,List.take_left]
  exact hr
 ·have:P.cellsOf ety=esz:=by simp [Program.cellsOf,hi,h1]
  simp only [if_true,hsz,this]
  exact ⟨trivial,hg2⟩
theorem appNew_src {esz m:Nat}{ib:List Nat}{new:List AV}{yv:AV}{h:AHeap}{F:FS}{θ:Th}{σ:Nat→Option Nat}{a:Act}{w:World}{u:Value}(R:Rep P C θ σ F a w)(h2:VRel θ yv u)
  (hn:appNew h esz yv=some (m,ib,new)) (agh:∀ id,id∈ib→F.hp id=hget h id) :
  ∃ a0 cb,u=.slice a0 m cb∧(a0=none→m=0∧cb=0)∧(0<m→∃ ad news,a0=some ad∧news.length=m*esz∧VRels θ new news∧(∀ j u,news[j]? = some u→w.cell? (ad.add j)=some u)∧∀ u∈news,u.oneCell'=true):=by
 unfold appNew at hn
 split at hn
 ·rename_i pb m' capb
  have h2':=h2
  have hsl:∃ a0 cb,u=.slice a0 m' cb∧(a0=none→m'=0∧cb=0):=by
   cases pb with
   |none=>simp only [VRel] at h2;exact ⟨none,0,by rw [h2.2.2,h2.1],fun _=>⟨h2.1,rfl⟩⟩
   |some q=>
    obtain ⟨ib,ob⟩:=q
    simp only [VRel] at h2
    obtain ⟨b,o',c,cap',e1,e2,e3,e4⟩:=h2
    exact ⟨_,_,e2,fun z=>by cases z⟩
  obtain ⟨a0,cb,e0,ez⟩:=hsl
  cases hm:Nat.beq m' 0 with
  |true=>
   rw [hm,cond_true] at hn
   have hm:=beq_true.1 hm;subst hm
   simp only [Option.some.injEq,Prod.mk.injEq] at hn
   obtain ⟨rfl,rfl,rfl⟩:=hn
   exact ⟨a0,cb,e0,ez,fun z=>by omega⟩
  |false=>
   rw [hm,cond_false] at hn
   split at hn
   ·rename_i ib' new' hnew
    simp only [Option.some.injEq,Prod.mk.injEq] at hn
    obtain ⟨rfl,rfl,rfl⟩:=hn
    obtain ⟨ob,bb,hpb,hbb,hle,hnc,hone⟩:=newCells_of hnew
    subst hpb
    refine ⟨a0,cb,e0,ez,fun _=>?_⟩
    simp only [VRel] at h2'
    obtain ⟨b,o',c,cap',e1,e2,e3,e4⟩:=h2'
    rw [e0] at e2
    obtain ⟨b',o'',c',g1,g0,g2⟩:=R.m.hp ib' bb (by rw [agh ib' (by simp)];exact hbb)
    rw [e1] at g1;cases g1
    obtain ⟨us,u1,u2,u3⟩:=cells_at g2 hle
    rw [← hnc] at u2
    simp only [Value.slice.injEq] at e2
    exact ⟨_,us,e2.1,u1,u2,u3,u2.ones hone⟩
   ·cases hn
 ·rename_i m' capb cs
  cases hc:(Nat.ble (m'*esz) cs.length&&(cs.take (m'*esz)).all AV.one) with
  |false=>rw [hc] at hn;cases hn
  |true=>
   rw [hc,cond_true] at hn
   simp only [Bool.and_eq_true] at hc
   simp only [Option.some.injEq,Prod.mk.injEq] at hn
   obtain ⟨rfl,rfl,rfl⟩:=hn
   have hle:=Nat.le_of_ble_eq_true hc.1
   simp only [VRel] at h2
   rcases h2 with ⟨b,o,sp,cap',us,e1,hsp,hcl,_,e3,_,e4⟩|⟨e1,e2,_,_⟩
   ·refine ⟨_,_,e1,(fun z=>by cases z),fun _=>⟨_,us.take (m'*esz),rfl,?_,e4.take _,fun j u hu=>?_,(e4.take _).ones hc.2⟩⟩
    ·have:=e4.length;simp only [List.length_take];omega
    ·by_cases hz:0<cap'
     ·obtain rfl:=hsp hz
      rw [add_off]
      exact wcell_cell (R.m.fzc _ _ _ (e3.take _ j u hu)) ((e4.take _).nif hu)
     ·have z:m'=0:=by omega
      subst z
      simp at hu
   ·subst e2
    exact ⟨none,0,e1,fun _=>⟨rfl,rfl⟩,fun z=>by omega⟩
 ·cases hn
theorem s_app {t ety:TypeId}{esz bytes:Nat}{x y:AX}{x' y':Operand}(ho:o.op=.call { callee:=.builtin .append,args:=#[x',y'],argTypes:=#[t,t] })
  (ok:okX C.ng x' x=true∧okX C.ng y' y=true) (ht:appOk P t ety esz bytes=true)
  (h:evOp O C.fl o.dst (.app ety esz bytes x y) s k=some r):OpS P C s o (.app ety esz bytes x y) k r:=by
 obtain ⟨i,z,t1,t2,t3,t4,t5,t6,t7,t8⟩:=appOk_of ht
 simp only [EVO.down] at h
 split at h
 ·rename_i xv hv
  split at h
  ·rename_i yv hu
   split at h
   ·rename_i m ib new hnew
    have srcA:∀ {F:FS} {θ:Th} {σ:Nat→Option Nat} {a:Act} {w:World},Rep P C θ σ F a w→AgT F s.fr y.rd→(∀ id,id∈ib→F.hp id=hget s.h id)→
      ∃ a0 cb,a.eval y'=.slice a0 m cb∧(a0=none→m=0∧cb=0)∧(0<m→∃ ad news,a0=some ad∧news.length=m*esz∧VRels θ new news∧(∀ j u,news[j]? = some u→w.cell? (ad.add j)=some u)∧∀ u∈news,u.oneCell'=true):=
     fun R ag hF=>appNew_src R (xn_rel R ok.2 hu ag) hnew hF
    have none0:∀ {F:FS} {θ:Th} {σ:Nat→Option Nat} {a:Act} {w:World} {n:Nat},m=0→Rep P C θ σ F a w→(∀ t,o.dst=some t→t<C.N)→AgT F s.fr (AOp.app ety esz bytes x y).rd→(∀ id,id∈ib→F.hp id=hget s.h id)→∀ a0 n0 cap',a.eval x'=.slice a0 n0 cap'→n0≤cap'→
      VRel θ xv (a.eval x')→StepTo P C θ σ s.n s.n o a w (F.put o.dst (Eff.v xv s.n)):=by
     intro F θ σ a w _ hm R hd ag hF a0 n0 cap' e1 e2 h1
     subst hm
     obtain ⟨b0,cb,v1,v2,_⟩:=srcA R ag.right hF
     have hs:Src P i.size t (a.eval y') 0 [] w:=by
      rw [v1]
      cases b0 with
      |none=>rw [(v2 rfl).2];exact Src.ofNil w t1 0
      |some q=>exact Src.ofSlice w t1 _ 0 _ [] (by simp) (by simp) (by simp)
     have hr:=run_append_nothing (P:=P) w t t o.type ety i t1 t2 a0 n0 cap' e2 (a.eval y') hs
     rw [← e1] at hr
     exact step_pure' R hd (app_run ho hr) h1
    split at h
    ·rename_i pa n cap
     cases hm:Nat.beq m 0 with
     |true=>
      rw [hm,cond_true] at h
      have hm:=beq_true.1 hm
      have hib:ib=[]:=by
       subst hm
       unfold appNew at hnew
       split at hnew
       ·rename_i pb m' capb
        cases hm:Nat.beq m' 0 with
        |true=>rw [hm,cond_true] at hnew;simp only [Option.some.injEq,Prod.mk.injEq] at hnew;exact hnew.2.1.symm
        |false=>
         rw [hm,cond_false] at hnew
         split at hnew
         ·simp only [Option.some.injEq,Prod.mk.injEq] at hnew
          rw [hnew.1] at hm;simp [beq_true.2] at hm
         ·cases hnew
       ·rename_i m' capb cs
        revert hnew
        cases (Nat.ble (m'*esz) cs.length&&(cs.take (m'*esz)).all AV.one)<;>intro hnew<;>simp at hnew
        exact hnew.2.1
       ·cases hnew
      refine ⟨_,_,h,Nat.le_refl _,fun F θ σ a w R hd ag _ _ _=>?_⟩
      have h1:=xn_rel R ok.1 hv ag.left
      have hx:∃ a0 cap',a.eval x'=.slice a0 n cap'∧n≤cap':=by
       have h1:=h1
       cases pa with
       |none=>
        simp only [VRel] at h1
        exact ⟨none,0,by rw [h1.2.2,h1.1],by omega⟩
       |some q=>
        obtain ⟨ib,ob⟩:=q
        simp only [VRel] at h1
        obtain ⟨b,o',c,cap',e1,e2,e3,e4⟩:=h1
        exact ⟨_,_,e2,e3⟩
      obtain ⟨a0,cap',e1,e2⟩:=hx
      exact none0 (n:=n) hm R hd ag (fun id hid=>by rw [hib] at hid;cases hid) a0 n cap' e1 e2 h1
     |false=>
      rw [hm,cond_false] at h
      have hm:0<m:=Nat.pos_of_ne_zero (beq_false.1 hm)
      cases hby:Nat.ble ((n+m)*bytes) 140737488355328 with
      |false=>simp [hby] at h
      |true=>
      rw [hby,cond_true] at h
      have hby:=Nat.le_of_ble_eq_true hby
      have hnm:n+m≤maxLen:=by
       have:n+m≤(n+m)*bytes:=Nat.le_mul_of_pos_right _ t8
       simp only [maxLen];omega
      have src:∀ {F:FS} {θ:Th} {σ:Nat→Option Nat} {a:Act} {w:World},Rep P C θ σ F a w→AgT F s.fr y.rd→(∀ id,id∈ib→F.hp id=hget s.h id)→
        ∃ ad cb news,a.eval y'=.slice (some ad) m cb∧news.length=m*i.size∧VRels θ new news∧(∀ j u,news[j]? = some u→w.cell? (ad.add j)=some u)∧∀ u∈news,u.oneCell'=true:=by
       intro F θ σ a w R ag hF
       obtain ⟨a0,cb,v1,_,v3⟩:=srcA R ag hF
       obtain ⟨ad,news,rfl,w1,w2,w3,w4⟩:=v3 hm
       exact ⟨ad,cb,news,v1,by rw [t4];exact w1,w2,w3,w4⟩
      split at h
      ·-- nil grows
       refine ⟨_,_,h,by simp,fun F θ σ a w R hd ag _ agh hf=>?_⟩
       have h1:=xn_rel R ok.1 hv ag.left
       obtain ⟨ad,cb,news,v1,v2,v3,v4,v5⟩:=src R ag.right (fun id hid=>agh.1 id (by simp [hid]))
       simp only [VRel] at h1
       obtain ⟨rfl,_,h1⟩:=h1
       have hr:=run_append_nil (P:=P) w t o.type ety i z t1 t2 t3 ad m cb news v2 v4 hm (by simp only [maxLen] at hnm;omega) (by rw [t5];simp only [Nat.zero_add] at hby;omega)
       have hg:=grown_row (P:=P) (θ:=θ) (olds:=[]) (news:=news) (cs:=new) (need:=m) (old:=0) (w:=w) t2 t4 t6 (by simpa using v3) (by simpa [t4] using v2) (by omega) (news.toArray++Builtin.zeroCells z.cells (grownCap w m 0 ety-m)) (by simp)
       rw [← h1,← v1] at hr
       exact step_new (x:=⟨true,true,ety,esz,new⟩) R hd hf rfl hg (Chg.drew _ _)
        (fun θ' e=>by simp only [VRel];exact ⟨_,_,_,_,e,rfl,grownCap_ge w m 0 ety,rfl,trivial⟩) (app_run ho hr)
      ·rename_i id off
       split at h
       ·rename_i c
        cases hc:Nat.ble (n+m) c with
        |true=>
         rw [hc,cond_true] at h
         have hc:=Nat.le_of_ble_eq_true hc
         split at h
         ·rename_i xb hxb
          obtain ⟨x1,x2,x3⟩:=ownAt_of hxb
          cases hq:(Nat.beq off 0&&Nat.beq xb.ty ety&&Nat.ble ((n+m)*esz) xb.cells.length) with
          |false=>simp [hq] at h
          |true=>
           rw [hq,cond_true] at h
           simp only [Bool.and_eq_true] at hq
           have q1:=beq_true.1 hq.1.1;have q2:=beq_true.1 hq.1.2;have q3:=Nat.le_of_ble_eq_true hq.2
           subst q1;subst q2
           refine ⟨_,_,h,Nat.le_refl _,fun F θ σ a w R hd ag _ agh _=>?_⟩
           have h1:=xn_rel R ok.1 hv ag.left
           obtain ⟨ad,cb,news,v1,v2,v3,v4,v5⟩:=src R ag.right (fun id hid=>agh.1 id (by simp [hid]))
           simp only [VRel] at h1
           obtain ⟨b,o',c',cap',e1,e2,e3,e4⟩:=h1
           have hFh:F.hp id=some xb:=by rw [agh.1 id (by simp)];exact x1
           obtain ⟨b',o'',c'',g1,g0,g2⟩:=R.m.hp id xb hFh
           rw [e1] at g1;cases g1
           subst e4
           unfold BRel at g2;rw [if_pos x2] at g2
           obtain ⟨rfl,arr,g3,g4,g5,g6⟩:=g2
           simp only [Nat.zero_add] at e2
           have l2:news.length=m*esz:=by rw [v2,t4]
           have l3:n*esz+news.length≤xb.cells.length:=by rw [l2,← Nat.add_mul];exact q3
           have l4:=v3.length
           have hr:=run_append_room (P:=P) w t o.type xb.ty i t1 t2 b n cap' arr g3 ad m cb news v2 v4 v5 hc (by rw [t4];omega)
           rw [← e2,← v1,t4] at hr
           have hsp:arr.toList.take (n*esz)++news++arr.toList.drop (n*esz+news.length)=splice arr.toList (n*esz) news:=(splice_eq _ _ _ (by simp;omega)).symm
           rw [hsp] at hr
           have hlen:(splice xb.cells (n*esz) new).length=xb.cells.length:=splice_length _ _ _ (by omega)
           refine step_val (app_run ho hr) (Th.ext_refl _ _ _)
            ⟨R.m.set (x':={ xb with cells:=splice xb.cells (n*esz) new }) hFh x2 x3 e1 (by funext q;simp [FS.put,lget_nil,lget_cns]) (fun id'=>?_) x2 rfl ⟨?_,?_,?_⟩ (Chg.row _ _ _) (by rw [setRow_heap w b arr _ xb.ty (0,0) g3]),
             R.t.step (Th.le_refl _) (fun _ _=>rfl) hd (fun y hy=>?_) (fun _ _ e=>by cases e)⟩
           ·simp only [FS.put,hlook_nl,hlook_cns]
            by_cases e:id=id'
            ·simp [e,beq_true.2]
            ·simp [e,beq_false.2 e]
           ·simp only [hlen,List.size_toArray];rw [splice_length _ _ _ (by simp;omega)];simpa using g4
           ·simp only [hlen]
            rw [splice_take _ _ _ _ (by omega)]
            exact g5.splice v3 (n*esz) (by omega)
           ·simp only [hlen,List.size_toArray];rw [splice_length _ _ _ (by simp;omega)];simpa using g6
           ·simp only [Option.some.injEq] at hy;subst hy
            refine TRel.of ?_
            simp only [VRel]
            exact ⟨b,0,_,cap',e1,by simp,hc,rfl⟩
         ·cases h
        |false=>
         rw [hc,cond_false] at h
         have hc:c<n+m:=by
          rcases Nat.lt_or_ge c (n+m) with q|q
          ·exact q
          ·rw [Nat.ble_eq_true_of_le q] at hc;cases hc
         split at h
         ·rename_i olds hold
          obtain ⟨xb,hxb,hxl,hoc⟩:=oldCells_of hold
          refine ⟨_,_,h,by simp,fun F θ σ a w R hd ag _ agh hf=>?_⟩
          have h1:=xn_rel R ok.1 hv ag.left
          obtain ⟨ad,cb,news,v1,v2,v3,v4,v5⟩:=src R ag.right (fun id hid=>agh.1 id (by simp [hid]))
          simp only [VRel] at h1
          obtain ⟨b,o',c',cap',e1,e2,e3,e4⟩:=h1
          subst e4
          obtain ⟨b',o'',c'',g1,g0,g2⟩:=R.m.hp id xb (by rw [agh.1 id (by simp)];exact hxb)
          rw [e1] at g1;cases g1
          obtain ⟨us,u1,u2,u3⟩:=cells_at g2 hxl
          rw [← hoc] at u2
          have hr:=run_append_grow (P:=P) w t o.type ety i z t1 t2 t3 _ n cap' us (by rw [u1,t4]) u3 ad m cb news v2 v4 (by omega) (by simp only [maxLen] at hnm;omega) (by rw [t5];exact growslice_fits (by omega) hby)
          have hg:=grown_row (P:=P) (θ:=θ) (olds:=us) (news:=news) (cs:=olds++new) (need:=n+m) (old:=cap') (w:=w) t2 t4 t6 (u2.append v3) (by rw [List.length_append,u1,v2,t4,Nat.add_mul]) hnm _ rfl
          rw [← e2,← v1] at hr
          exact step_new (x:=⟨true,true,ety,esz,olds++new⟩) R hd hf rfl hg (Chg.drew _ _)
           (fun θ' e=>by simp only [VRel];exact ⟨_,_,_,_,e,rfl,grownCap_ge w (n+m) cap' ety,rfl,trivial⟩) (app_run ho hr)
         ·cases h
       ·split at h
        ·rename_i xb hxb
         obtain ⟨x1,x2,x3⟩:=ownAt_of hxb
         cases hq:(xb.opn&&Nat.beq xb.ty ety&&Nat.beq (n*esz) xb.cells.length) with
         |false=>simp [hq] at h
         |true=>
          rw [hq,cond_true] at h
          simp only [Bool.and_eq_true] at hq
          have q1:=hq.1.1;have q2:=beq_true.1 hq.1.2;have q3:=beq_true.1 hq.2
          subst q2
          refine ⟨_,_,h,by simp,fun F θ σ a w R hd ag _ agh hf=>?_⟩
          have h1:=xn_rel R ok.1 hv ag.left
          obtain ⟨ad,cb,news,v1,v2,v3,v4,v5⟩:=src R ag.right (fun id hid=>agh.1 id (by simp [hid]))
          simp only [VRel] at h1
          obtain ⟨b,o',c',cap',e1,e2,e3,e4,e5⟩:=h1
          subst e4;subst e5
          have hFh:F.hp id=some xb:=by rw [agh.1 id (by simp)];exact x1
          obtain ⟨b',o'',c'',g1,g0,g2⟩:=R.m.hp id xb hFh
          rw [e1] at g1;cases g1
          have hfree:θ s.n=none:=hf s.n (Nat.le_refl _) (by simp)
          have hne:id≠s.n:=fun e=>by subst e;rw [hfree] at e1;cases e1
          by_cases hroom:n+m≤cap'
          ·unfold BRel at g2;rw [if_pos x2] at g2
           obtain ⟨rfl,arr,g3,g4,g5,g6⟩:=g2
           rw [if_pos q1] at g6
           have hce:P.cellsOf xb.ty=esz:=by simp [Program.cellsOf,t2,t4]
           rw [hce] at g6
           simp only [Nat.zero_add] at e2
           have l2:news.length=m*esz:=by rw [v2,t4]
           have l3:n*esz+news.length≤arr.size:=by rw [l2,← Nat.add_mul,g6.1];exact Nat.mul_le_mul_right _ hroom
           have l4:=v3.length
           have hr:=run_append_room (P:=P) w t o.type xb.ty i t1 t2 b n cap' arr g3 ad m cb news v2 v4 v5 hroom (by rw [t4];omega)
           rw [← e2,← v1,t4] at hr
           have hlen:(xb.cells++new).length=n*esz+news.length:=by rw [List.length_append];omega
           have R1:=R.m.set (F':={ F with hp:=fun q=>if id=q then some ⟨true,true,xb.ty,esz,xb.cells++new⟩ else F.hp q }) (w':=w.setRow b (arr.toList.take (n*esz)++news++arr.toList.drop (n*esz+news.length)).toArray)
            (x':=⟨true,true,xb.ty,esz,xb.cells++new⟩) (arr:=(arr.toList.take (n*esz)++news++arr.toList.drop (n*esz+news.length)).toArray) hFh x2 x3 e1 rfl (fun _=>rfl) rfl rfl ⟨by
             simp only [hlen,List.size_toArray,List.length_append,List.length_take,List.length_drop,Array.length_toList];omega,by
             simp only [hlen]
             rw [List.take_append_of_le_length (by simp;omega),List.take_of_length_le (by simp;omega)]
             rw [q3];exact g5.append v3,by
             simp only [if_true,hce,List.size_toArray,List.length_append,List.length_take,List.length_drop,Array.length_toList]
             exact ⟨by omega,g6.2⟩⟩ (Chg.row _ _ _) (by rw [setRow_heap w b arr _ xb.ty (0,0) g3])
           have R2:=R1.renumber (F':=F.put o.dst ⟨some (.sl (some (s.n,0)) (n+m) .op),[],[(id,none),(s.n,some ⟨true,true,xb.ty,esz,xb.cells++new⟩)],s.n+1,none⟩) (n:=id) (m:=s.n)
            (x:=⟨true,true,xb.ty,esz,xb.cells++new⟩) (by simp) rfl x3 e1 hfree (by funext q;simp [FS.put,lget_nil,lget_cns]) (fun q=>by
             simp only [FS.put,hlook_nl,hlook_cns]
             by_cases e:s.n=q
             ·subst e;simp [beq_false.2 hne,beq_true.2]
             ·by_cases e':id=q
              ·subst e';simp [beq_true.2,e]
              ·simp [beq_false.2 e,beq_false.2 e',e,e'])
           refine step_val (θ':=θ.upd s.n (b,0,cap')) (app_run ho hr) ⟨fun q=>?_,fun _ _ _ e=>e⟩ ⟨R2,R.t.step ⟨fun q t e=>?_,fun _ _ _ e=>e⟩ (fun _ _=>rfl) hd (fun y hy=>?_) (fun _ _ e=>by cases e)⟩
           ·by_cases e:s.n=q
            ·exact .inr ⟨by rw [← e];exact hfree,by omega,by simp only;omega⟩
            ·exact .inl (by simp [Th.upd,e])
           ·by_cases e':s.n=q
            ·subst e';rw [hfree] at e;cases e
            ·simp [Th.upd,e',e]
           ·simp only [Option.some.injEq] at hy;subst hy
            refine TRel.of ?_
            simp only [VRel]
            exact ⟨b,0,cap',cap',by simp [Th.upd],by simp,hroom,rfl,trivial⟩
          ·obtain ⟨us,u1,u2,u3⟩:=cells_at g2 (off:=0) (n:=n*esz) (by omega)
           have hoc:(xb.cells.drop 0).take (n*esz)=xb.cells:=by rw [List.drop_zero,List.take_of_length_le (by omega)]
           rw [hoc] at u2
           have hr:=run_append_grow (P:=P) w t o.type xb.ty i z t1 t2 t3 _ n cap' us (by rw [u1,t4]) u3 ad m cb news v2 v4 (by omega) (by simp only [maxLen] at hnm;omega) (by rw [t5];exact growslice_fits (by omega) hby)
           have hg:=grown_row (P:=P) (θ:=θ) (olds:=us) (news:=news) (cs:=xb.cells++new) (need:=n+m) (old:=cap') (w:=w) t2 t4 t6 (u2.append v3) (by rw [List.length_append,u1,v2,t4,Nat.add_mul]) hnm _ rfl
           rw [← e2,← v1] at hr
           have RF:Rep P C θ σ { F with hp:=fun q=>if id=q then none else F.hp q } a w:=⟨R.m.forget rfl (fun q x hx=>by
            simp only at hx
            by_cases e:id=q
            ·rw [if_pos e] at hx;cases hx
            ·rw [if_neg e] at hx;exact hx),⟨R.t.size,R.t.defers,R.t.tmp,R.t.lpok⟩⟩
           have st:=step_new (x:=⟨true,true,xb.ty,esz,xb.cells++new⟩) (v:=.sl (some (s.n,0)) (n+m) .op) RF hd hf rfl hg (Chg.drew _ _)
            (fun θ' e=>by simp only [VRel];exact ⟨_,_,_,_,e,rfl,grownCap_ge w (n+m) cap' xb.ty,rfl,trivial⟩) (app_run ho hr)
           have ef:FS.put { F with hp:=fun q=>if id=q then none else F.hp q } o.dst ⟨some (.sl (some (s.n,0)) (n+m) .op),[],[(s.n,some ⟨true,true,xb.ty,esz,xb.cells++new⟩)],s.n+1,none⟩
             = F.put o.dst ⟨some (.sl (some (s.n,0)) (n+m) .op),[],[(id,none),(s.n,some ⟨true,true,xb.ty,esz,xb.cells++new⟩)],s.n+1,none⟩:=by
            unfold FS.put
            congr 1
            funext q
            simp only [hlook_nl,hlook_cns]
            by_cases e:id=q
            ·subst e;simp [beq_true.2,beq_false.2 (Ne.symm hne)]
            ·simp only [beq_false.2 e,cond_false,if_neg e]
           rw [ef] at st
           exact st
        ·cases h
       ·cases h
    ·rename_i n cap cs
     cases hm:Nat.beq m 0 with
     |true=>
      rw [hm,cond_true] at h
      have hm:=beq_true.1 hm
      refine ⟨_,_,h,Nat.le_refl _,fun F θ σ a w R hd ag _ agh _=>?_⟩
      have h1:=xn_rel R ok.1 hv ag.left
      obtain ⟨a0,cap',e1,e2,_,_⟩:=vs_slice h1
      exact none0 (n:=n) hm R hd ag (fun id hid=>by
       subst hm
       unfold appNew at hnew
       split at hnew
       ·rename_i pb m' capb
        cases hm:Nat.beq m' 0 with
        |true=>rw [hm,cond_true] at hnew;simp only [Option.some.injEq,Prod.mk.injEq] at hnew;rw [← hnew.2.1] at hid;cases hid
        |false=>
         rw [hm,cond_false] at hnew
         split at hnew
         ·simp only [Option.some.injEq,Prod.mk.injEq] at hnew
          rw [hnew.1] at hm;simp [beq_true.2] at hm
         ·cases hnew
       ·rename_i m' capb cs
        revert hnew
        cases (Nat.ble (m'*esz) cs.length&&(cs.take (m'*esz)).all AV.one)<;>intro hnew<;>simp at hnew
        rw [hnew.2.1] at hid;cases hid
       ·cases hnew) a0 n cap' e1 e2 h1
     |false=>
      rw [hm,cond_false] at h
      have hm:0<m:=Nat.pos_of_ne_zero (beq_false.1 hm)
      split at h
      ·rename_i c
       cases hby:(Nat.ble ((n+m)*bytes) 140737488355328&&Nat.blt c (n+m)&&Nat.ble (n*esz) cs.length) with
       |false=>rw [hby] at h;cases h
       |true=>
        rw [hby,cond_true] at h
        simp only [Bool.and_eq_true] at hby
        obtain ⟨⟨by1,by2⟩,by3⟩:=hby
        have by1:=Nat.le_of_ble_eq_true by1
        rw [Nat.blt_eq] at by2
        have by3:=Nat.le_of_ble_eq_true by3
        have hnm:n+m≤maxLen:=by
         have:n+m≤(n+m)*bytes:=Nat.le_mul_of_pos_right _ t8
         simp only [maxLen];omega
        refine ⟨_,_,h,by simp,fun F θ σ a w R hd ag _ agh hf=>?_⟩
        have h1:=xn_rel R ok.1 hv ag.left
        obtain ⟨b0,cb,v1,_,vv⟩:=srcA R ag.right (fun id hid=>agh.1 id hid)
        obtain ⟨ad,news,rfl,v2,v3,v4,v5⟩:=vv hm
        simp only [VRel] at h1
        rcases h1 with ⟨b,o',sp,cap',us,e1,hsp,e2,e3,e4,_,e5⟩|⟨e1,rfl,rfl,e3⟩
        ·simp only [ACap.is] at e3;subst e3
         have u1:(us.take (n*esz)).length=n*esz:=by have:=e5.length;simp only [List.length_take];omega
         have hr:=run_append_grow (P:=P) w t o.type ety i z t1 t2 t3 ⟨b,o',sp⟩ n cap' (us.take (n*esz)) (by rw [u1,t4]) (fun j u hu=>by
          by_cases hz:0<cap'
          ·obtain rfl:=hsp hz
           rw [add_off];exact wcell_cell (R.m.fzc _ _ _ (e4.take _ j u hu)) ((e5.take _).nif hu)
          ·have z:n=0:=by omega
           subst z
           simp at hu) ad m cb news (by rw [v2,t4]) v4 (by omega) (by simp only [maxLen] at hnm;omega) (by rw [t5];exact growslice_fits (by omega) by1)
         have hg:=grown_row (P:=P) (θ:=θ) (olds:=us.take (n*esz)) (news:=news) (cs:=cs.take (n*esz)++new) (need:=n+m) (old:=cap') (w:=w) t2 t4 t6 ((e5.take _).append v3) (by rw [List.length_append,u1,v2,Nat.add_mul]) hnm _ rfl
         rw [← e1,← v1] at hr
         exact step_new (x:=⟨true,true,ety,esz,cs.take (n*esz)++new⟩) R hd hf rfl hg (Chg.drew _ _)
          (fun θ' e=>by simp only [VRel];exact ⟨_,_,_,_,e,rfl,grownCap_ge w (n+m) cap' ety,rfl,trivial⟩) (app_run ho hr)
        ·have hr:=run_append_nil (P:=P) w t o.type ety i z t1 t2 t3 ad m cb news (by rw [v2,t4]) v4 hm (by simp only [maxLen] at hnm;omega) (by rw [t5];simp only [Nat.zero_add] at by1;omega)
         have hg:=grown_row (P:=P) (θ:=θ) (olds:=[]) (news:=news) (cs:=List.take (0*esz) []++new) (need:=m) (old:=0) (w:=w) t2 t4 t6 (by simpa using v3) (by simpa using v2) (by omega) (news.toArray++Builtin.zeroCells z.cells (grownCap w m 0 ety-m)) (by simp)
         rw [← e1,← v1] at hr
         have hz:(0+m)=m:=Nat.zero_add m
         rw [hz]
         exact step_new (x:=⟨true,true,ety,esz,List.take (0*esz) []++new⟩) R hd hf rfl hg (Chg.drew _ _)
          (fun θ' e=>by simp only [VRel];exact ⟨_,_,_,_,e,rfl,grownCap_ge w m 0 ety,rfl,trivial⟩) (app_run ho hr)
      ·cases h
    ·cases h
   ·cases h
  ·cases h
 ·cases h
end
end Go.Proofs.YtchgkmdonhdfeaaGreatDoor.Ab
/- Each operation on values alone (floats, complex numbers, a pointer held against nil) does what the model's operation does. No condition: lemmas only. -/
set_option linter.unusedVariables false
set_option linter.unusedSimpArgs false
namespace Go.Proofs.YtchgkmdonhdfeaaGreatDoor.Ab
open Go
theorem add_nl {x y:Nat}(h:nanb x=true):FloatKind.f64.format.add x y=none:=by
 obtain ⟨s,f,e⟩:=read_nan h;unfold Ieee.Format.add;rw [e];rfl
theorem add_nr {x y:Nat}(h:nanb y=true):FloatKind.f64.format.add x y=none:=by
 obtain ⟨s,f,e⟩:=read_nan h;unfold Ieee.Format.add;rw [e]
 cases FloatKind.f64.format.read x<;>rfl
theorem sub_nl {x y:Nat}(h:nanb x=true):FloatKind.f64.format.sub x y=none:=by
 obtain ⟨s,f,e⟩:=read_nan h;unfold Ieee.Format.sub;rw [e];rfl
theorem sub_nr {x y:Nat}(h:nanb y=true):FloatKind.f64.format.sub x y=none:=by
 obtain ⟨s,f,e⟩:=read_nan h;unfold Ieee.Format.sub;rw [e]
 cases FloatKind.f64.format.read x<;>rfl
theorem mul_nl {x y:Nat}(h:nanb x=true):FloatKind.f64.format.mul x y=none:=by
 obtain ⟨s,f,e⟩:=read_nan h;unfold Ieee.Format.mul;rw [e];rfl
theorem mul_nr {x y:Nat}(h:nanb y=true):FloatKind.f64.format.mul x y=none:=by
 obtain ⟨s,f,e⟩:=read_nan h;unfold Ieee.Format.mul;rw [e]
 cases FloatKind.f64.format.read x<;>rfl
theorem div_nl {x y:Nat}(h:nanb x=true):FloatKind.f64.format.div x y=none:=by
 obtain ⟨s,f,e⟩:=read_nan h;unfold Ieee.Format.div;rw [e];rfl
theorem div_nr {x y:Nat}(h:nanb y=true):FloatKind.f64.format.div x y=none:=by
 obtain ⟨s,f,e⟩:=read_nan h;unfold Ieee.Format.div;rw [e]
 cases FloatKind.f64.format.read x<;>rfl
theorem nan_iff (x:Nat):nanb x=decide (2047*2 ^ 52<x % 2 ^ 63):=by
 have e:FloatKind.f64.format.signWeight=2 ^ 63:=rfl
 have e2:FloatKind.f64.format.infRung=2047*2 ^ 52:=rfl
 have e3:FloatKind.f64.format.binade=2 ^ 52:=rfl
 unfold nanb Ieee.Format.read
 simp only [e,e2,e3]
 split
 ·simp only [Ieee.Datum.isNaN];rw [eq_comm,decide_eq_false_iff_not];omega
 ·split
  ·simp only [Ieee.Datum.isNaN];rw [eq_comm,decide_eq_false_iff_not];omega
  ·split
   ·simp only [Ieee.Datum.isNaN];rw [eq_comm,decide_eq_false_iff_not];omega
   ·simp only [Ieee.Datum.isNaN];rw [eq_comm,decide_eq_true_eq];omega
theorem neg_nan (x:Nat):nanb (Op.negFloat .f64 x)=nanb x:=by
 rw [nan_iff,nan_iff]
 have:Op.negFloat .f64 x % 2 ^ 63=x % 2 ^ 63:=by
  have e:Op.negFloat .f64 x=x ^^^ 2 ^ 63:=rfl
  rw [e,Nat.xor_mod_two_pow,Nat.mod_self,Nat.xor_zero]
 rw [this]
theorem cut_nan (t x y:Nat):nanb ((Question.nanBits .f64 x y).cut t)=true:=by
 rw [nan_iff,decide_eq_true_eq]
 show _<((t % 2)*2 ^ 63+0x7ff0000000000000+1+(t / 2) % (2 ^ 52-1)) % 2 ^ 63
 have h1:(t / 2) % (2 ^ 52-1)<2 ^ 52-1:=Nat.mod_lt _ (by decide)
 generalize (t / 2) % (2 ^ 52-1)=u at h1
 rcases Nat.mod_two_eq_zero_or_one t with e|e<;>rw [e]<;>omega
section
variable {P:Program}{C:Cx}{O:Orc}{s:AS}{o:Oper}{k:Eff→Foot→Option Res}{r:Res}
theorem s_nchk {x:AX}{x':Operand}(ho:o.op=.nilCheck x')(ok:okX C.ng x' x=true)(h:evOp O C.fl o.dst (.nchk x) s k=some r):OpS P C s o (.nchk x) k r:=by
 simp only [EVO.down] at h
 split at h
 ·rename_i t off hv
  refine ⟨_,_,h,Nat.le_refl _,fun F θ σ a w R hd ag _ _ _=>?_⟩
  obtain ⟨h1,h2⟩:=xv_rel R ok hv ag
  obtain ⟨b,_,hu⟩:=lp_of h1
  exact step_pure (u:=.pointer (some ⟨b,off,none⟩)) R hd (by simp [execOp,ho,hu]) (Chg.refl _ _) (by rw [← hu];exact h1) h2
 ·rename_i p hv
  refine ⟨_,_,h,Nat.le_refl _,fun F θ σ a w R hd ag _ _ _=>?_⟩
  obtain ⟨h1,h2⟩:=xv_rel R ok hv ag
  obtain ⟨id,off⟩:=p
  have h1':=h1.val rfl
  have h3:=h1'
  simp only [VRel] at h3
  obtain ⟨b,o',c,_,hu⟩:=h3
  exact step_pure (u:=.pointer (some ⟨b,o'+off,none⟩)) R hd (by simp [execOp,ho,hu]) (Chg.refl _ _) (by rw [← hu];exact h1) h2
 ·rename_i cs hv
  refine ⟨_,_,h,Nat.le_refl _,fun F θ σ a w R hd ag _ _ _=>?_⟩
  obtain ⟨h1,h2⟩:=xv_rel R ok hv ag
  have h3:=h1.val rfl
  simp only [VRel] at h3
  obtain ⟨b,o',us,hu,_⟩:=h3
  exact step_pure (u:=.pointer (some ⟨b,o',none⟩)) R hd (by simp [execOp,ho,hu]) (Chg.refl _ _) (by rw [← hu];exact h1) h2
 ·cases h
def PopRun (P:Program)(o:Oper)(l:List Operand)(p:POp):Prop:=
 ∀ (a:Act) (θ:Th) (w:World) (vs:List AV) (v:AV),apo p vs=some v→VRels θ vs (l.map a.eval)→
  ∃ u w',(execOp a.eval o).run P w=.ok (.value u) w'∧Chg (fun _=>False) w w'∧VRel θ v u
theorem s_pop {p:POp}{xs:List AX}{l:List Operand}(hr:PopRun P o l p)(ok:okXs C.ng l xs=true)(h:evOp O C.fl o.dst (.pop p xs) s k=some r):OpS P C s o (.pop p xs) k r:=by
 simp only [EVO.down] at h
 split at h
 ·rename_i vs hvs
  split at h
  ·rename_i v hv
   refine ⟨_,_,h,Nat.le_refl _,fun F θ σ a w R hd ag _ _ _=>?_⟩
   have h1:=xns_rel R l xs vs (okXs_of ok).1 (okXs_of ok).2 hvs ag
   obtain ⟨u,w',g1,g2,g3⟩:=hr a θ w vs v hv h1
   exact step_pure R hd g1 g2 (TRel.of g3) (fun s off e=>by subst e;simp [VRel] at g3)
  ·cases h
 ·cases h
theorem rels1 {θ:Th}{x:AV}{l:List Operand}{a:Act}{y:Operand}(h:VRels θ [x] ([y].map a.eval)):VRel θ x (a.eval y):=by
 simp only [VRels,List.map_cons,List.map_nil,List.cons.injEq] at h
 obtain ⟨v,vs,⟨e1,e2⟩,h1,h2⟩:=h
 rw [e1];exact h1
theorem rels2 {θ:Th}{x x2:AV}{a:Act}{y y2:Operand}(h:VRels θ [x,x2] ([y,y2].map a.eval)):VRel θ x (a.eval y)∧VRel θ x2 (a.eval y2):=by
 simp only [VRels,List.map_cons,List.map_nil,List.cons.injEq] at h
 obtain ⟨v,vs,⟨e1,e2⟩,h1,v2,vs2,e3,h2,h3⟩:=h
 rw [e3] at e2
 simp only [List.cons.injEq] at e2
 rw [e1,e2.1];exact ⟨h1,h2⟩
theorem chg_drew (w:World):Chg (fun _=>False) w w.drew:=Chg.drew _ w
theorem real_eq {ts:Array TypeId}{t:TypeId}{k:FloatKind}{x y:Nat}:Builtin.real_ ts t #[.complex k x y]=pure (.float k x):=rfl
theorem imag_eq {ts:Array TypeId}{t:TypeId}{k:FloatKind}{x y:Nat}:Builtin.imag_ ts t #[.complex k x y]=pure (.float k y):=rfl
theorem cplx_eq {ts:Array TypeId}{t:TypeId}{k:FloatKind}{x y:Nat}:Builtin.complex_ ts t #[.float k x,.float k y]=pure (.complex k x y):=by
 show (if k=k then _ else _)=_
 rw [if_pos rfl]
theorem fv_some {r:Nat}{θ:Th}:VRel θ (fval (some r)) (.float .f64 r):=by simp only [fval,VRel];exact ⟨_,rfl,.inl rfl⟩
theorem nan_fval {x:Nat}(h:nanb x=true){θ:Th}:VRel θ (fval none) (.float .f64 x):=by
 simp only [fval,VRel]
 exact ⟨_,rfl,.inr ⟨by decide,h⟩⟩
theorem arith_run {op:BinOp}{θ:Th}{x y:Nat}{a b:Value}{w:World}{t:TypeId}{v:AV}(hv:apo (.fbin op) [.f .f64 x,.f .f64 y]=some v)(ha:VRel θ (.f .f64 x) a)(hb:VRel θ (.f .f64 y) b) :
  ∃ u w',(binOp op t a b).run P w=.ok u w'∧Chg (fun _=>False) w w'∧VRel θ v u:=by
 simp only [VRel] at ha hb
 obtain ⟨x',rfl,hx⟩:=ha
 obtain ⟨y',rfl,hy⟩:=hb
 cases op<;>simp only [apo,Option.some.injEq] at hv<;>first|(cases hv;done)|skip
 all_goals subst hv
 ·have e:=two_nan (g:=FloatKind.f64.format.add) (fun _ _=>add_nl) (fun _ _=>add_nr) hx hy
  cases q:FloatKind.f64.format.add x' y' with
  |some r=>rw [e,q];exact ⟨.float .f64 r,w,by simp [binOp,Op.floatArith,q],Chg.refl _ _,fv_some⟩
  |none=>
   rw [e,q]
   exact ⟨.float .f64 ((Question.nanBits .f64 x' y').cut (w.tape w.drawn (Question.nanBits .f64 x' y'))),w.drew,by simp [binOp,Op.floatArith,q,run_choose_drew,Question.forced],chg_drew w,nan_fval (cut_nan ..)⟩
 ·have e:=two_nan (g:=FloatKind.f64.format.sub) (fun _ _=>sub_nl) (fun _ _=>sub_nr) hx hy
  cases q:FloatKind.f64.format.sub x' y' with
  |some r=>rw [e,q];exact ⟨.float .f64 r,w,by simp [binOp,Op.floatArith,q],Chg.refl _ _,fv_some⟩
  |none=>
   rw [e,q]
   exact ⟨.float .f64 ((Question.nanBits .f64 x' y').cut (w.tape w.drawn (Question.nanBits .f64 x' y'))),w.drew,by simp [binOp,Op.floatArith,q,run_choose_drew,Question.forced],chg_drew w,nan_fval (cut_nan ..)⟩
 ·have e:=two_nan (g:=FloatKind.f64.format.mul) (fun _ _=>mul_nl) (fun _ _=>mul_nr) hx hy
  cases q:FloatKind.f64.format.mul x' y' with
  |some r=>rw [e,q];exact ⟨.float .f64 r,w,by simp [binOp,Op.floatArith,q],Chg.refl _ _,fv_some⟩
  |none=>
   rw [e,q]
   exact ⟨.float .f64 ((Question.nanBits .f64 x' y').cut (w.tape w.drawn (Question.nanBits .f64 x' y'))),w.drew,by simp [binOp,Op.floatArith,q,run_choose_drew,Question.forced],chg_drew w,nan_fval (cut_nan ..)⟩
 ·have e:=two_nan (g:=FloatKind.f64.format.div) (fun _ _=>div_nl) (fun _ _=>div_nr) hx hy
  cases q:FloatKind.f64.format.div x' y' with
  |some r=>rw [e,q];exact ⟨.float .f64 r,w,by simp [binOp,Op.floatArith,q],Chg.refl _ _,fv_some⟩
  |none=>
   rw [e,q]
   exact ⟨.float .f64 ((Question.nanBits .f64 x' y').cut (w.tape w.drawn (Question.nanBits .f64 x' y'))),w.drew,by simp [binOp,Op.floatArith,q,run_choose_drew,Question.forced],chg_drew w,nan_fval (cut_nan ..)⟩
theorem fcmp_run {op:BinOp}{θ:Th}{x y:Nat}{a b:Value}{w:World}{t:TypeId}{v:AV}(hv:apo (.fcmp op) [.f .f64 x,.f .f64 y]=some v)(ha:VRel θ (.f .f64 x) a)(hb:VRel θ (.f .f64 y) b) :
  ∃ u,(binOp op t a b).run P w=.ok u w∧VRel θ v u:=by
 simp only [VRel] at ha hb
 obtain ⟨x',rfl,hx⟩:=ha
 obtain ⟨y',rfl,hy⟩:=hb
 have e:=ord_eq hx hy
 simp only [apo,e] at hv
 cases op<;>simp only [fcmpB,Option.some.injEq] at hv<;>first|(cases hv;done)|skip
 all_goals
  subst hv
  exact ⟨_,by simp [binOp,Op.floatCmp];rfl,by simp [VRel]⟩
theorem ng_float {θ:Th}{k:FloatKind}{x:Nat}{a:Value}(h:VRel θ (.f k x) a):a≠.nilIface∧(∀ c,a≠.agg c):=by
 simp only [VRel] at h;obtain ⟨_,rfl,_⟩:=h;exact ⟨by simp,by simp⟩
theorem ng_cplx {θ:Th}{k:FloatKind}{x y:Nat}{a:Value}(h:VRel θ (.c k x y) a):a≠.nilIface∧(∀ c,a≠.agg c):=by
 simp only [VRel] at h;obtain ⟨_,_,rfl,_⟩:=h;exact ⟨by simp,by simp⟩
theorem p_fbin {op:BinOp}{t t':TypeId}{x y:Operand}(ho:o.op=.binOp op t x y t'):PopRun P o [x,y] (.fbin op):=fun a θ w vs v hv h=>by
 unfold apo at hv
 split at hv<;>rename_i e<;>first|(cases e;done)|skip
 ·cases e
  obtain ⟨h1,h2⟩:=rels2 h
  rename_i m n
  obtain ⟨u,w',g1,g2,g3⟩:=arith_run (P:=P) (w:=w) (t:=t) (op:=op) (v:=v) (by simpa only [apo] using hv) h1 h2
  exact ⟨u,w',by simp [execOp,ho,run_eqGuard (P:=P) (ng_float h1),g1],g2,g3⟩
 all_goals cases hv
theorem p_fcmp {op:BinOp}{t t':TypeId}{x y:Operand}(ho:o.op=.binOp op t x y t'):PopRun P o [x,y] (.fcmp op):=fun a θ w vs v hv h=>by
 unfold apo at hv
 split at hv<;>rename_i e<;>first|(cases e;done)|skip
 ·cases e
  obtain ⟨h1,h2⟩:=rels2 h
  obtain ⟨u,g1,g3⟩:=fcmp_run (P:=P) (w:=w) (t:=t) (op:=op) (v:=v) (by simpa only [apo] using hv) h1 h2
  exact ⟨u,w,by simp [execOp,ho,run_eqGuard (P:=P) (ng_float h1),g1],Chg.refl _ _,g3⟩
 all_goals cases hv
theorem p_ceq {neg:Bool}{t t':TypeId}{x y:Operand}(ho:o.op=.binOp (if neg then .neq else .eql) t x y t'):PopRun P o [x,y] (.ceq neg):=fun a θ w vs v hv h=>by
 unfold apo at hv
 split at hv<;>rename_i e<;>first|(cases e;done)|skip
 ·cases e
  obtain ⟨h1,h2⟩:=rels2 h
  have q:=ng_cplx h1
  simp only [VRel] at h1 h2
  obtain ⟨a1,b1,e1,f1,f2⟩:=h1
  obtain ⟨a2,b2,e2,f3,f4⟩:=h2
  have o1:=ord_eq f1 f3
  have o2:=ord_eq f2 f4
  simp only [o1,o2,Option.some.injEq] at hv
  subst hv
  refine ⟨_,w,?_,Chg.refl _ _,by simp only [VRel];rfl⟩
  rw [e1] at q
  cases neg<;>simp [execOp,ho,e1,e2,run_eqGuard (P:=P) q,binOp,Op.complexOp,Op.Complex.cmp,Op.floatCmp,asBool]
 all_goals cases hv
theorem p_fneg {t:TypeId}{x:Operand}(ho:o.op=.unOp .neg t x):PopRun P o [x] .fneg:=fun a θ w vs v hv h=>by
 unfold apo at hv
 split at hv<;>rename_i e<;>first|(cases e;done)|skip
 ·have h1:=rels1 (l:=[]) h
  simp only [Option.some.injEq] at hv;subst hv
  simp only [VRel] at h1
  obtain ⟨x',e1,hx⟩:=h1
  refine ⟨.float .f64 (Op.negFloat .f64 x'),w,by simp [execOp,ho,e1,Op.unary],Chg.refl _ _,?_⟩
  simp only [VRel]
  refine ⟨_,rfl,?_⟩
  rcases hx.of with rfl|⟨p,q⟩
  ·exact .inl rfl
  ·exact .inr ⟨by have:=neg_nan ‹Nat›;rw [← neg_nan] at p;exact p,by rw [← neg_nan] at q;exact q⟩
 all_goals cases hv
theorem p_re {ts:Array TypeId}{x:Operand}(ho:o.op=.call { callee:=.builtin .real,args:=#[x],argTypes:=ts }):PopRun P o [x] .re:=fun a θ w vs v hv h=>by
 unfold apo at hv
 split at hv<;>rename_i e<;>first|(cases e;done)|skip
 ·have h1:=rels1 (l:=[]) h
  simp only [Option.some.injEq] at hv;subst hv
  simp only [VRel] at h1
  obtain ⟨x',y',e1,hx,hy⟩:=h1
  exact ⟨.float .f64 x',w,by simp [execOp,ho,e1,resolve,invoke,builtin,real_eq],Chg.refl _ _,by simp only [VRel];exact ⟨_,rfl,hx⟩⟩
 all_goals cases hv
theorem p_im {ts:Array TypeId}{x:Operand}(ho:o.op=.call { callee:=.builtin .imag,args:=#[x],argTypes:=ts }):PopRun P o [x] .im:=fun a θ w vs v hv h=>by
 unfold apo at hv
 split at hv<;>rename_i e<;>first|(cases e;done)|skip
 ·have h1:=rels1 (l:=[]) h
  simp only [Option.some.injEq] at hv;subst hv
  simp only [VRel] at h1
  obtain ⟨x',y',e1,hx,hy⟩:=h1
  exact ⟨.float .f64 y',w,by simp [execOp,ho,e1,resolve,invoke,builtin,imag_eq],Chg.refl _ _,by simp only [VRel];exact ⟨_,rfl,hy⟩⟩
 all_goals cases hv
theorem p_mk {ts:Array TypeId}{x y:Operand}(ho:o.op=.call { callee:=.builtin .complex,args:=#[x,y],argTypes:=ts }):PopRun P o [x,y] .mk:=fun a θ w vs v hv h=>by
 unfold apo at hv
 split at hv<;>rename_i e<;>first|(cases e;done)|skip
 ·obtain ⟨h1,h2⟩:=rels2 h
  simp only [Option.some.injEq] at hv;subst hv
  simp only [VRel] at h1 h2
  obtain ⟨x',e1,hx⟩:=h1
  obtain ⟨y',e2,hy⟩:=h2
  exact ⟨.complex .f64 x' y',w,by simp [execOp,ho,e1,e2,resolve,invoke,builtin,cplx_eq],Chg.refl _ _,by simp only [VRel];exact ⟨_,_,rfl,hx,hy⟩⟩
 all_goals cases hv
theorem p_ofi {src dst:TypeId}{x:Operand}(ho:o.op=.convert src dst x)(h1:(P.underlying src).isSome=true)(h2:P.underlying dst=some (.float .f64)):PopRun P o [x] .ofi:=fun a θ w vs v hv h=>by
 unfold apo at hv
 split at hv<;>rename_i e<;>first|(cases e;done)|skip
 ·have h3:=rels1 (l:=[]) h
  simp only [Option.some.injEq] at hv;subst hv
  simp only [VRel] at h3
  obtain ⟨u,hu⟩:=Option.isSome_iff_exists.1 h1
  refine ⟨.float .f64 (FloatKind.f64.nearest _),w,?_,Chg.refl _ _,by simp only [VRel];exact ⟨_,rfl,.inl rfl⟩⟩
  cases u<;>simp [execOp,ho,h3,convert,run_underlying hu,run_underlying h2,Conv.intToFloat]
 all_goals cases hv
theorem p_toi {k:IntKind}{src dst:TypeId}{x:Operand}(ho:o.op=.convert src dst x)(h1:(P.underlying src).isSome=true)(h2:P.underlying dst=some (.int k)):PopRun P o [x] (.toi k):=fun a θ w vs v hv h=>by
 unfold apo at hv
 split at hv<;>rename_i e<;>first|(cases e;done)|skip
 ·have h3:=rels1 (l:=[]) h
  split at hv
  ·rename_i n hn
   cases e
   simp only [Option.some.injEq] at hv;subst hv
   simp only [VRel] at h3
   obtain ⟨x',e1,hx⟩:=h3
   rename_i m _
   have hxx:m=x':=by
    rcases hx.of with e2|⟨p,q⟩
    ·exact e2
    ·exfalso
     obtain ⟨s,f,e3⟩:=read_nan p
     unfold floatToIntVal FloatKind.decode at hn
     rw [e3] at hn
     simp [Ieee.Datum.toInt,Ieee.Datum.integral] at hn
   subst hxx
   exact ⟨.int k n,w,by simp [execOp,ho,e1,run_convert_float_int w src dst .f64 k m n h1 h2 hn],Chg.refl _ _,by simp only [VRel]⟩
  ·cases hv
 all_goals cases hv
theorem p_pnil {neg:Bool}{t t':TypeId}{x:Operand}(ho:o.op=.binOp (if neg then .neq else .eql) t x (.const (.pointer none)) t')(ht:P.underlying t=some (.pointer (P.pointee t))):PopRun P o [x] (.pnil neg):=fun a θ w vs v hv h=>by
 unfold apo at hv
 split at hv<;>rename_i e<;>first|(cases e;done)|skip
 ·have h3:=rels1 (l:=[]) h
  simp only [Option.some.injEq] at hv
  rename_i p
  have key:∃ q:Option Addr,a.eval x=.pointer q∧q.isSome=p.isSome:=by
   cases p with
   |none=>simp only [VRel] at h3;exact ⟨_,h3,rfl⟩
   |some q=>obtain ⟨id,off⟩:=q;simp only [VRel] at h3;obtain ⟨b,o,c,_,e⟩:=h3;exact ⟨_,e,rfl⟩
  obtain ⟨q,e1,e2⟩:=key
  have hc:a.eval (.const (.pointer none))=.pointer none:=rfl
  have hgd:∀ op,(eqGuard op t x (.const (.pointer none)) (.pointer q) (.pointer none)).run P w=.ok () w:=fun op=>run_eqGuard ⟨by simp,by simp⟩
  have hq:=run_equal_pointer_nil w t q ht
  cases e
  subst hv
  refine ⟨.bool (bif neg then p.isSome else !p.isSome),w,?_,Chg.refl _ _,by simp only [VRel]⟩
  cases neg<;>simp [execOp,ho,e1,hc,hgd,binOp,hq,← e2]<;>cases q<;>simp
 ·have h3:=rels1 (l:=[]) h
  simp only [Option.some.injEq] at hv
  simp only [VRel] at h3
  obtain ⟨b,o1,us,e1,_⟩:=h3
  have hc:a.eval (.const (.pointer none))=.pointer none:=rfl
  have hgd:∀ op,(eqGuard op t x (.const (.pointer none)) (.pointer (some ⟨b,o1,none⟩)) (.pointer none)).run P w=.ok () w:=fun op=>run_eqGuard ⟨by simp,by simp⟩
  have hq:=run_equal_pointer_nil w t (some ⟨b,o1,none⟩) ht
  cases e
  subst hv
  refine ⟨.bool neg,w,?_,Chg.refl _ _,by simp only [VRel]⟩
  cases neg<;>simp [execOp,ho,e1,hc,hgd,binOp,hq]
 all_goals cases hv
theorem gen_fb:Extern.allGenericRows.lookup "math.Float64bits" = none:=by kernel_rfl
theorem typ_fb:Extern.allTypedRows.lookup "math.Float64bits" = none:=by kernel_rfl
theorem all_fb':Extern.allRows.lookup "math.Float64bits" = some Extern.MathFloatBits.float64bits:=by kernel_rfl
theorem nxt_fb:Extern.allNextRows.lookup "math.Float64bits" = none:=by kernel_rfl
theorem gen_ff:Extern.allGenericRows.lookup "math.Float64frombits" = none:=by kernel_rfl
theorem typ_ff:Extern.allTypedRows.lookup "math.Float64frombits" = none:=by kernel_rfl
theorem all_ff':Extern.allRows.lookup "math.Float64frombits" = some Extern.MathFloatBits.float64frombits:=by kernel_rfl
theorem nxt_ff:Extern.allNextRows.lookup "math.Float64frombits" = none:=by kernel_rfl
def isExt (P:Program)(f:FuncId)(name:String):Bool:=
 match P.funcs[f]? with
 |some fn=>decide (fn.name=name)&&fn.body.isNone&&decide (fn.origin = "")
 |none=>false
theorem nxt_no:Extern.allNextRows.lookup "" = none:=by kernel_rfl
theorem ext_run {f:FuncId}{fn:Func}{x:Operand}{ts:Array TypeId}{e:Array Value→Sem Value}(ho:o.op=.call { callee:=.value (.func f),args:=#[x],argTypes:=ts })(hf:P.funcs[f]? = some fn)
  (hn:(fn.name == "runtime.NumGoroutine")=false) (hb:fn.body.isNone=true) (h1:Extern.findNext fn=none) (h2:Extern.find fn=some e) (a:Act) (w:World) :
  (execOp a.eval o).run P w=((e #[a.eval x]).run P w).andThen fun v w'=>.ok (.value v) w':=by
 have hr:=run_callFunc_extern hf hn hb h1 h2 #[a.eval x] w
 have hv:a.eval (.func f)=.func (.func f) #[] #[]:=rfl
 rw [← hr]
 simp [execOp,ho,resolve,Deferred.ofValue,hv,invoke]
theorem p_fbits {f:FuncId}{x:Operand}{ts:Array TypeId}(ho:o.op=.call { callee:=.value (.func f),args:=#[x],argTypes:=ts })(hx:isExt P f "math.Float64bits" = true):PopRun P o [x] .fbits:=fun a θ w vs v hv h=>by
 unfold isExt at hx
 split at hx
 ·rename_i fn hf
  simp only [Bool.and_eq_true,decide_eq_true_eq] at hx
  obtain ⟨⟨hn,hb⟩,hg⟩:=hx
  have h1:Extern.findNext fn=none:=by simp [Extern.findNext,hn,hg,nxt_fb,nxt_no]
  have h2:Extern.find fn=some Extern.MathFloatBits.float64bits:=by simp [Extern.find,hn,gen_fb,typ_fb,all_fb']
  have hrun:=ext_run ho hf (by rw [hn];decide) hb h1 h2 a w
  unfold apo at hv
  split at hv<;>rename_i e<;>first|(cases e;done)|skip
  ·have h3:=rels1 (l:=[]) h
   rename_i m
   cases q:(FloatKind.f64.format.read m).isNaN with
   |true=>simp [q] at hv
   |false=>
    simp only [q,cond_false,Option.some.injEq] at hv;subst hv
    simp only [VRel] at h3
    obtain ⟨x',e1,hx⟩:=h3
    have hxx:m=x':=by
     rcases hx.of with e2|⟨p,_⟩
     ·exact e2
     ·unfold nanb at p;rw [q] at p;cases p
    subst hxx
    refine ⟨.int .u64 m,w,?_,Chg.refl _ _,by simp only [VRel]⟩
    rw [hrun,e1];rfl
  all_goals cases hv
 ·cases hx
theorem p_ffrom {f:FuncId}{x:Operand}{ts:Array TypeId}(ho:o.op=.call { callee:=.value (.func f),args:=#[x],argTypes:=ts })(hx:isExt P f "math.Float64frombits" = true):PopRun P o [x] .ffrom:=fun a θ w vs v hv h=>by
 unfold isExt at hx
 split at hx
 ·rename_i fn hf
  simp only [Bool.and_eq_true,decide_eq_true_eq] at hx
  obtain ⟨⟨hn,hb⟩,hg⟩:=hx
  have h1:Extern.findNext fn=none:=by simp [Extern.findNext,hn,hg,nxt_ff,nxt_no]
  have h2:Extern.find fn=some Extern.MathFloatBits.float64frombits:=by simp [Extern.find,hn,gen_ff,typ_ff,all_ff']
  have hrun:=ext_run ho hf (by rw [hn];decide) hb h1 h2 a w
  unfold apo at hv
  split at hv<;>rename_i e<;>first|(cases e;done)|skip
  ·have h3:=rels1 (l:=[]) h
   rename_i m
   simp only [Option.some.injEq] at hv;subst hv
   simp only [VRel] at h3
   refine ⟨.float .f64 m.toNat,w,?_,Chg.refl _ _,by simp only [VRel];exact ⟨_,rfl,.inl rfl⟩⟩
   rw [hrun,h3];rfl
  all_goals cases hv
 ·cases hx
end
end Go.Proofs.YtchgkmdonhdfeaaGreatDoor.Ab
/- Looking a whole number up in a map that is told by its contents does what the model's operation does. No condition: lemmas only. -/
set_option linter.unusedVariables false
set_option linter.unusedSimpArgs false
namespace Go.Proofs.YtchgkmdonhdfeaaGreatDoor.Ab
open Go
def FoundRel (θ:Th):Option AV→Option (Nat×Value)→Prop
 |none,r=>r=none
 |some v,r=>∃ j u,r=some (j,u)∧VRel θ v u
theorem akey_rel {θ:Th}{kd:IntKind}{n:Int}:∀ {es:List MapEntry}{cs:List AV}{r:Option AV}(i:Nat),VRels θ cs (mflat es)→akey kd n cs=some r→∃ r',Instr.findNow (.int kd) (.int kd n) es i=some r'∧FoundRel θ r r'
 | [],cs,r,i,h,e=>by
  have hl:=h.length
  simp only [mflat,List.length_nil] at hl
  have:cs=[]:=List.eq_nil_of_length_eq_zero hl.symm
  subst this
  simp only [akey,Option.some.injEq] at e
  subst e
  exact ⟨none,rfl,rfl⟩
 |x::es,cs,r,i,h,e=>by
  simp only [mflat] at h
  cases cs with
  |nil=>simp only [VRels] at h;cases h
  |cons a cs=>
   cases cs with
   |nil=>
    simp only [VRels] at h
    obtain ⟨_,_,q,_,q2⟩:=h
    simp only [List.cons.injEq] at q
    rw [← q.2] at q2
    cases q2
   |cons v cs=>
    simp only [VRels] at h
    obtain ⟨_,_,q,h1,_,_,rfl,h2,h3⟩:=h
    simp only [List.cons.injEq] at q
    obtain ⟨rfl,rfl,rfl⟩:=q
    cases a<;>simp only [akey] at e<;>first|(cases e;done)|skip
    rename_i k' m
    simp only [VRel] at h1
    cases hs:IntKind.same kd k' with
    |false=>rw [hs] at e;cases e
    |true=>
     have:=same_eq hs
     subst this
     rw [hs,cond_true] at e
     unfold Instr.findNow
     have hnow:Instr.sameNow (.int kd) (.int kd n) x.key=some (n==m):=by rw [h1];simp [Instr.sameNow]
     rw [hnow]
     cases hm:(n==m) with
     |true=>
      rw [hm,cond_true] at e
      cases e
      exact ⟨_,rfl,_,_,rfl,h2⟩
     |false=>
      rw [hm,cond_false] at e
      exact akey_rel (i+1) h3 e
def zeroOne (P:Program)(e:TypeId)(z:AV):Bool:=match P.info? e with
 |some i=>(match i.zero with
  |some v=>constOk v z
  |none=>false)
 |none=>false
def mlkOk (P:Program)(t:TypeId)(kd:IntKind)(z:AV):Bool:=match P.underlying t with
 |some (.map kt et)=>(match P.underlying kt with
  |some (.int k)=>IntKind.same k kd&&zeroOne P et z
  |_=>false)
 |_=>false
section
variable {P:Program}{C:Cx}{O:Orc}{s:AS}{o:Oper}{k:Eff→Foot→Option Res}{r:Res}
theorem s_mlk {t:TypeId}{kd:IntKind}{z:AV}{x y:AX}{x' y':Operand}(ho:o.op=.lookup t x' y' true)(ok:okX C.ng x' x=true∧okX C.ng y' y=true)(hz:mlkOk P t kd z=true)
  (h:evOp O C.fl o.dst (.mlk kd z x y) s k=some r):OpS P C s o (.mlk kd z x y) k r:=by
 unfold mlkOk at hz
 split at hz<;>first|(cases hz;done)|skip
 rename_i kt et ht
 split at hz<;>first|(cases hz;done)|skip
 rename_i k0 hk
 simp only [Bool.and_eq_true] at hz
 obtain ⟨hz1,hz2⟩:=hz
 have:=same_eq hz1
 subst this
 unfold zeroOne at hz2
 split at hz2<;>first|(cases hz2;done)|skip
 rename_i inf hi
 split at hz2<;>first|(cases hz2;done)|skip
 rename_i zv hzv
 simp only [evOp_mlk] at h
 split at h<;>first|(cases h;done)|skip
 rename_i cs hv
 split at h<;>first|(cases h;done)|skip
 rename_i k1 n hu
 cases hs:IntKind.same k1 k0 with
 |false=>rw [hs] at h;cases h
 |true=>
  have:=same_eq hs
  subst this
  rw [hs,cond_true] at h
  have main:∀ q,akey k1 n cs=some q→∀ {F:FS} {θ:Th} {σ:Nat→Option Nat} {a:Act} {w:World},Rep P C θ σ F a w→AgT F s.fr (x.rd++y.rd)→∃ u,(execOp a.eval o).run P w=.ok (.value (.tuple #[u,.bool q.isSome])) w∧VRel θ (q.getD z) u:=by
   intro q hq F θ σ a w R ag
   have h1:=xn_rel R ok.1 hv ag.left
   have h2:=xn_rel R ok.2 hu ag.right
   simp only [VRel] at h1 h2
   obtain ⟨b,us,e1,e2,e3⟩:=h1
   obtain ⟨es,nn,hb,rfl⟩:=wcell_map (R.m.fzc _ _ _ e2)
   have e3':VRels θ cs (mflat es.toList):=by simpa using e3
   obtain ⟨r',f1,f2⟩:=akey_rel 0 e3' hq
   have hck:(Instr.checkKey es.isEmpty 10000 kt (.int k1 n)).run P w=.ok () w:=MapKept.run_checkKey (k:=.int k1 n) hk (by simp [MapKept.IsKey]) es.isEmpty 9999
   cases q with
   |none=>
    simp only [FoundRel] at f2
    subst f2
    refine ⟨zv,?_,constOk_rel hz2⟩
    simp [execOp,ho,e1,h2,Instr.lookup,run_underlying ht,MapKept.run_getObj_map hb,hck,MapKept.run_findKey hk f1,Result.andThen,zeroValue,typeInfo,hi,hzv]
   |some v=>
    obtain ⟨j,u,rfl,f3⟩:=f2
    refine ⟨u,?_,f3⟩
    simp [execOp,ho,e1,h2,Instr.lookup,run_underlying ht,MapKept.run_getObj_map hb,hck,MapKept.run_findKey hk f1,Result.andThen]
  split at h
  ·rename_i v hq
   refine ⟨_,_,h,Nat.le_refl _,fun F θ σ a w R hd ag _ _ _=>?_⟩
   obtain ⟨u,g1,g2⟩:=main _ hq R ag
   exact step_pure' R hd g1 (by simp only [VRel,VRels];exact ⟨_,rfl,_,_,rfl,g2,_,_,rfl,rfl,rfl⟩)
  ·rename_i hq
   refine ⟨_,_,h,Nat.le_refl _,fun F θ σ a w R hd ag _ _ _=>?_⟩
   obtain ⟨u,g1,g2⟩:=main _ hq R ag
   exact step_pure' R hd g1 (by simp only [VRel,VRels];exact ⟨_,rfl,_,_,rfl,g2,_,_,rfl,rfl,rfl⟩)
  ·cases h
end
end Go.Proofs.YtchgkmdonhdfeaaGreatDoor.Ab
/- An append to an empty slice without room, told by contents: what the model's append does. No condition: lemmas only. -/
set_option linter.unusedVariables false
set_option linter.unusedSimpArgs false
namespace Go.Proofs.YtchgkmdonhdfeaaGreatDoor.Ab
open Go
section
variable {P:Program}{C:Cx}{O:Orc}{s:AS}{o:Oper}{k:Eff→Foot→Option Res}{r:Res}
theorem step_froze {F:FS}{θ:Th}{σ:Nat→Option Nat}{a:Act}{w w1:World}{n lo hi m cap:Nat}{ety:TypeId}{arr:Array Value}{new:List AV}{news:List Value}(R:Rep P C θ σ F a w)(hd:∀ t,o.dst=some t→t<C.N)
  (hr:VRels θ new news) (hn:AV.nors new=true) (hl:news.length≤arr.size) (ha:arr.toList.take news.length=news) (hm:m≤cap) (hi0:∀ u∈news,∀ d x,u≠Value.iface d x)
  (h1:Chg (fun _=>False) w w1)
  (hrun:(execOp a.eval o).run P w=.ok (.value (.slice (some ⟨w1.heap.size,0,none⟩) m cap)) (w1.alloc (.cells arr ety))) :
  StepTo P C θ σ lo hi o a w (F.put o.dst (Eff.v (.vs m .unk new) n)):=by
 have R1:RepM P C θ σ F w1:=R.m.same rfl rfl h1
 let φ:Nat→Nat→Option Value:=fun b q=>if b=w1.heap.size∧q<news.length then news[q]? else θ.fz b q
 have hold:∀ b q u,θ.fz b q=some u→b<w1.heap.size:=fun b q u e=>wcell_lt (R1.fzc b q u e)
 have hfle:Th.fle θ ⟨θ.pl,φ⟩:=fun b q u e=>by
  show φ b q=some u
  have:=hold b q u e
  simp only [φ]
  rw [if_neg (by omega)];exact e
 have hcell:∀ q u,news[q]? = some u→wcell (w1.alloc (.cells arr ety)) w1.heap.size q=some u:=fun q u e=>by
  have hq:q<news.length:=(List.getElem?_eq_some_iff.1 e).1
  have hlo:arr[q]? = some u:=by
   have h2:(arr.toList.take news.length)[q]? = some u:=by rw [ha];exact e
   rw [List.getElem?_take,if_pos hq] at h2
   simpa using h2
  refine wcell_of ?_ (hi0 u (List.mem_of_getElem? e))
  simp only [World.cell?,heap_new]
  exact hlo
 have R2:RepM P C ⟨θ.pl,φ⟩ σ (F.put o.dst (Eff.v (.vs m .unk new) n)) (w1.alloc (.cells arr ety)):=R1.grow (FS.put_v_loc ..) (FS.put_v_hp ..) (Chg.alloc _ _ _) hfle (fun b q u e=>by
  simp only [φ] at e
  split at e
  ·rename_i c
   obtain ⟨rfl,c2⟩:=c
   exact .inr ⟨Nat.le_refl _,hcell q u e⟩
  ·exact .inl e)
 refine step_val (θ':=⟨θ.pl,φ⟩) hrun ⟨fun _=>.inl rfl,hfle⟩ ⟨R2,R.t.step ⟨fun _ _ e=>e,hfle⟩ (fun _ _=>rfl) hd (fun y hy=>?_) (fun _ _ e=>by cases e)⟩
 simp only [Eff.v,Option.some.injEq] at hy;subst hy
 refine TRel.of ?_
 unfold VRel
 refine .inl ⟨w1.heap.size,0,none,cap,news,rfl,fun _=>rfl,hm,trivial,fun i u e=>?_,hn,VRels.mono (θ:=θ) (θ':=⟨θ.pl,φ⟩) ⟨fun _ _ e=>e,hfle⟩ new news hr⟩
 show φ w1.heap.size (0+i)=some u
 have hq:i<news.length:=(List.getElem?_eq_some_iff.1 e).1
 simp only [φ,Nat.zero_add]
 rw [if_pos ⟨trivial,hq⟩];exact e
theorem s_apf {t ety:TypeId}{esz bytes:Nat}{x y:AX}{x' y':Operand}(ho:o.op=.call { callee:=.builtin .append,args:=#[x',y'],argTypes:=#[t,t] })
  (ok:okX C.ng x' x=true∧okX C.ng y' y=true) (ht:appOk P t ety esz bytes=true)
  (h:evOp O C.fl o.dst (.apf ety esz bytes x y) s k=some r):OpS P C s o (.apf ety esz bytes x y) k r:=by
 obtain ⟨i,z,t1,t2,t3,t4,t5,t6,t7,t8⟩:=appOk_of ht
 simp only [evOp_apf] at h
 split at h<;>first|(cases h;done)|skip
 rename_i xv hv
 split at h<;>first|(cases h;done)|skip
 rename_i yv hu
 split at h<;>first|(cases h;done)|skip
 rename_i m ib new hnew
 split at h<;>first|(cases h;done)|skip
 rename_i pa n cap
 cases hroom:(Nat.beq n 0&&noRoom pa cap) with
 |false=>rw [hroom] at h;cases h
 |true=>
  rw [hroom,cond_true] at h
  simp only [Bool.and_eq_true] at hroom
  obtain ⟨hn0,hnr⟩:=hroom
  have hn0:=beq_true.1 hn0
  subst hn0
  have hx:∀ {F:FS} {θ:Th} {σ:Nat→Option Nat} {a:Act} {w:World},Rep P C θ σ F a w→AgT F s.fr x.rd→a.eval x'=.slice none 0 0∨∃ b o',a.eval x'=.slice (some ⟨b,o',none⟩) 0 0:=by
   intro F θ σ a w R ag
   have h1:=xn_rel R ok.1 hv ag
   cases pa with
   |none=>
    simp only [VRel] at h1
    exact .inl h1.2.2
   |some q=>
    obtain ⟨id,off⟩:=q
    simp only [VRel] at h1
    obtain ⟨b,o',c,cap',e1,e2,e3,e4⟩:=h1
    unfold noRoom at hnr
    cases cap with
    |ex c'=>
     simp only at hnr e4
     have:=beq_true.1 hnr
     subst this;subst e4
     exact .inr ⟨_,_,e2⟩
    |op=>cases hnr
    |unk=>cases hnr
  cases hm:Nat.beq m 0 with
  |true=>
   rw [hm,cond_true] at h
   have hm:=beq_true.1 hm
   subst hm
   have hib:ib=[]:=by
    unfold appNew at hnew
    split at hnew
    ·rename_i pb m' capb
     cases hm:Nat.beq m' 0 with
     |true=>rw [hm,cond_true] at hnew;simp only [Option.some.injEq,Prod.mk.injEq] at hnew;exact hnew.2.1.symm
     |false=>
      rw [hm,cond_false] at hnew
      split at hnew
      ·simp only [Option.some.injEq,Prod.mk.injEq] at hnew
       rw [hnew.1] at hm;simp [beq_true.2] at hm
      ·cases hnew
    ·rename_i m' capb cs
     revert hnew
     cases (Nat.ble (m'*esz) cs.length&&(cs.take (m'*esz)).all AV.one)<;>intro hnew<;>simp at hnew
     exact hnew.2.1
    ·cases hnew
   refine ⟨_,_,h,Nat.le_refl _,fun F θ σ a w R hd ag _ _ _=>?_⟩
   obtain ⟨b0,cb,v1,v2,_⟩:=appNew_src R (xn_rel R ok.2 hu ag.right) hnew (fun id hid=>by rw [hib] at hid;cases hid)
   have hs:Src P i.size t (a.eval y') 0 [] w:=by
    rw [v1]
    cases b0 with
    |none=>rw [(v2 rfl).2];exact Src.ofNil w t1 0
    |some q=>exact Src.ofSlice w t1 _ 0 _ [] (by simp) (by simp) (by simp)
   rcases hx R ag.left with e|⟨b,o',e⟩
   ·have hr:=run_append_nothing (P:=P) w t t o.type ety i t1 t2 none 0 0 (Nat.le_refl _) (a.eval y') hs
    rw [← e] at hr
    exact step_pure' R hd (app_run ho hr) (by rw [e];simp only [VRel];exact .inr ⟨trivial,trivial,trivial,trivial⟩)
   ·have hr:=run_append_nothing (P:=P) w t t o.type ety i t1 t2 (some ⟨b,o',none⟩) 0 0 (Nat.le_refl _) (a.eval y') hs
    rw [← e] at hr
    exact step_pure' R hd (app_run ho hr) (by rw [e];simp only [VRel];exact .inl ⟨b,o',none,0,[],rfl,fun _=>rfl,Nat.le_refl _,trivial,(fun i u e=>by simp at e),rfl,rfl⟩)
  |false=>
   rw [hm,cond_false] at h
   have hm:0<m:=Nat.pos_of_ne_zero (beq_false.1 hm)
   cases hby:(Nat.ble (m*bytes) 140737488355328&&AV.nors new) with
   |false=>rw [hby] at h;cases h
   |true=>
    rw [hby,cond_true] at h
    simp only [Bool.and_eq_true] at hby
    obtain ⟨hby,hnn⟩:=hby
    have hby:=Nat.le_of_ble_eq_true hby
    have hnm:m≤maxLen:=by
     have:m≤m*bytes:=Nat.le_mul_of_pos_right _ t8
     simp only [maxLen];omega
    refine ⟨_,_,h,Nat.le_refl _,fun F θ σ a w R hd ag _ agh _=>?_⟩
    obtain ⟨a0,cb,v1,_,v3⟩:=appNew_src R (xn_rel R ok.2 hu ag.right) hnew (fun id hid=>agh.1 id hid)
    obtain ⟨ad,news,rfl,v2,v3,v4,v5⟩:=v3 hm
    have hif:∀ u∈news,∀ d x,u≠Value.iface d x:=fun u hu d x e=>by
     obtain ⟨j,hj⟩:=List.mem_iff_getElem?.1 hu
     exact v3.nif hj d x e
    have htake:∀ rest:Array Value,((news.toArray++rest).toList.take news.length)=news:=fun rest=>by simp
    rcases hx R ag.left with e|⟨b,o',e⟩
    ·have hr:=run_append_nil (P:=P) w t o.type ety i z t1 t2 t3 ad m cb news (by rw [t4];exact v2) v4 hm (by simp only [maxLen] at hnm;omega) (by rw [t5];omega)
     rw [← e,← v1] at hr
     exact step_froze R hd v3 hnn (by simp) (htake _) (grownCap_ge w m 0 ety) hif (Chg.drew _ _) (app_run ho hr)
    ·have hr:=run_append_grow (P:=P) w t o.type ety i z t1 t2 t3 ⟨b,o',none⟩ 0 0 [] (by simp) (by simp) ad m cb news (by rw [t4];exact v2) v4 (by omega) (by simp only [maxLen] at hnm;omega) (by rw [t5];exact growslice_fits (by omega) (by rw [Nat.zero_add];exact hby))
     rw [← e,← v1] at hr
     have hr':=app_run ho hr
     simp only [Nat.zero_add] at hr'
     exact step_froze R hd v3 hnn (by simp) (by simp) (grownCap_ge w m 0 ety) hif (Chg.drew _ _) hr'
end
end Go.Proofs.YtchgkmdonhdfeaaGreatDoor.Ab
/- Each operation of the abstract machine does what the model's operation does (sixth part: calls). No condition: lemmas only. -/
set_option linter.unusedVariables false
set_option linter.unusedSimpArgs false
namespace Go.Proofs.YtchgkmdonhdfeaaGreatDoor.Ab
open Go
def Heir (h0:AHeap)(n0:Nat)(h:AHeap)(n:Nat):Prop:=
 n0≤n∧∀ id x,hget h id=some x→(∃ y,hget h0 id=some y∧y.own=x.own)∨(n0≤id∧id<n∧x.own=true)
def HB (h:AHeap)(n:Nat):Prop:=∀ id x,hget h id=some x→id<n
theorem Heir.refl (h:AHeap)(n:Nat):Heir h n h n:=⟨Nat.le_refl _,fun _ x e=>.inl ⟨x,e,rfl⟩⟩
theorem Heir.trans {h0 h1 h2:AHeap}{n0 n1 n2:Nat}(a:Heir h0 n0 h1 n1)(b:Heir h1 n1 h2 n2):Heir h0 n0 h2 n2:=
 ⟨Nat.le_trans a.1 b.1,fun id x e=>by
  rcases b.2 id x e with ⟨y,hy,q⟩|⟨p1,p2,p3⟩
  ·rcases a.2 id y hy with ⟨z,hz,q'⟩|⟨p1,p2,p3⟩
   ·exact .inl ⟨z,hz,q'.trans q⟩
   ·exact .inr ⟨p1,Nat.lt_of_lt_of_le p2 b.1,q▸p3⟩
  ·exact .inr ⟨Nat.le_trans a.1 p1,p2,p3⟩⟩
theorem Heir.hb {h0 h:AHeap}{n0 n:Nat}(a:Heir h0 n0 h n)(b:HB h0 n0):HB h n:=fun id x e=>by
 rcases a.2 id x e with ⟨y,hy,_⟩|⟨_,p,_⟩
 ·exact Nat.lt_of_lt_of_le (b id y hy) a.1
 ·exact p
def HeirE (s:AS)(e:Eff):Prop:=
 s.n≤e.n∧match e.all with
 |some h=>Heir s.h s.n h e.n
 |none=>∀ id x,hlook e.hp id=some (some x)→(∃ y,hget s.h id=some y∧y.own=x.own)∨(s.n≤id∧id<e.n∧x.own=true)
theorem HeirE.put {s:AS}{e:Eff}(h:HeirE s e)(d:Option Nat):Heir s.h s.n (s.put d e).h (s.put d e).n:=by
 obtain ⟨h1,h2⟩:=h
 unfold AS.put
 split at h2
 ·rename_i q hq;simp only [hq];exact h2
 ·rename_i hq
  simp only [hq]
  refine ⟨h1,fun id x hx=>?_⟩
  rw [hget_happly] at hx
  split at hx
  ·rename_i b hb;subst hx;exact h2 id x hb
  ·exact .inl ⟨x,hx,rfl⟩
theorem HeirE.wide {s:AS}{l:List Nat}{e:Eff}(h:HeirE { s with h:=hhide l s.h } e)(ha:e.all=none):HeirE s e:=by
 obtain ⟨h1,h2⟩:=h
 refine ⟨h1,?_⟩
 rw [ha] at h2 ⊢
 intro id x hx
 rcases h2 id x hx with ⟨y,hy,q⟩|p
 ·rw [hget_hhide] at hy
  split at hy
  ·cases hy
  ·exact .inl ⟨y,hy,q⟩
 ·exact .inr p
def OHeir (O:Orc):Prop:=∀ g args h n fl v h' n',O g args h n fl=some (v,some (h',n'))→HB h n→Heir h n h' n'
theorem heir0 {s:AS}{v:Option AV}{l:List (Nat×List AV)}:HeirE s ⟨v,l,[],s.n,none⟩:=⟨Nat.le_refl _,fun id x h=>by simp [hlook_nl,hlook_cns] at h⟩
theorem heir_v {s:AS}{v:AV}:HeirE s (Eff.v v s.n):=heir0
theorem heir_n {s:AS}{v:Option AV}{n:Nat}(h:s.n≤n):HeirE s ⟨v,[],[],n,none⟩:=⟨h,fun id x h=>by simp [hlook_nl,hlook_cns] at h⟩
theorem heir_new {s:AS}{v:Option AV}{x:ABlk}(h:x.own=true):HeirE s ⟨v,[],[(s.n,some x)],s.n+1,none⟩:=⟨by simp,fun id y hy=>by
 simp only [hlook_nl,hlook_cns] at hy
 cases e:Nat.beq s.n id with
 |false=>simp [e] at hy
 |true=>
  have e:=beq_true.1 e;subst e
  simp [beq_true.2] at hy;subst hy
  exact .inr ⟨Nat.le_refl _,by simp,h⟩⟩
theorem heir_set {fl:Nat}{s:AS}{v:Option AV}{id:Nat}{b:ABlk}{q:Bool}{ty:TypeId}{ez:Nat}{cs:List AV}(h:ownAt fl s.h id=some b):HeirE s ⟨v,[],[(id,some ⟨b.own,q,ty,ez,cs⟩)],s.n,none⟩:=⟨Nat.le_refl _,fun id' y hy=>by
 obtain ⟨h1,h2,_⟩:=ownAt_of h
 simp only [hlook_nl,hlook_cns] at hy
 cases e:Nat.beq id id' with
 |false=>simp [e] at hy
 |true=>
  have e:=beq_true.1 e;subst e
  simp [beq_true.2] at hy;subst hy
  exact .inl ⟨b,h1,rfl⟩⟩
theorem heir_move {s:AS}{v:Option AV}{id:Nat}{x:ABlk}(h:x.own=true):HeirE s ⟨v,[],[(id,none),(s.n,some x)],s.n+1,none⟩:=⟨by simp,fun id' y hy=>by
 simp only [hlook_nl,hlook_cns] at hy
 cases e':Nat.beq id id' with
 |true=>simp [e'] at hy
 |false=>
  simp only [e',cond_false] at hy
  cases e:Nat.beq s.n id' with
  |false=>simp [e] at hy
  |true=>
   have e:=beq_true.1 e;subst e
   simp [beq_true.2] at hy;subst hy
   exact .inr ⟨Nat.le_refl _,by simp,h⟩⟩
theorem hlook_map (h:AHeap)(id:Nat):hlook (h.map fun p=>(p.1,some p.2)) id=(hget h id).map some:=by
 induction h with
 |nil=>rfl
 |cons p r ih=>
  obtain ⟨k,b⟩:=p
  simp only [List.map_cons,hlook_nl,hlook_cns,hget_nil,hget_cns,ih]
  cases Nat.beq k id<;>rfl
theorem heir_call {s:AS}{v:Option AV}{h':AHeap}{n':Nat}(h:Heir s.h s.n h' n')(hb:HB s.h s.n):HeirE s ⟨v,[],(hnew h' s.n).map fun p=>(p.1,some p.2),n',none⟩:=⟨h.1,fun id y hy=>by
 rw [hlook_map] at hy
 simp only [Option.map_eq_some_iff,Option.some.injEq] at hy
 obtain ⟨z,hz,rfl⟩:=hy
 rw [hget_hnew] at hz
 split at hz
 ·rename_i hle
  rcases h.2 id z hz with ⟨y,hy,q⟩|p
  ·exact .inl ⟨y,hy,q⟩
  ·exact .inr p
 ·cases hz⟩
open Classical in
noncomputable def kg (s:AS) (k:Eff→Foot→Option Res) (e:Eff) (f:Foot):Option Res:=if HeirE s e then k e f else none
theorem kg_pos {s:AS}{k:Eff→Foot→Option Res}{e:Eff}{f:Foot}{r:Res}(h:HeirE s e)(q:k e f=some r):kg s k e f=some r:=by unfold kg;rw [if_pos h];exact q
theorem kg_of {s:AS}{k:Eff→Foot→Option Res}{e:Eff}{f:Foot}{r:Res}(q:kg s k e f=some r):HeirE s e∧k e f=some r:=by
 unfold kg at q
 split at q
 ·rename_i h;exact ⟨h,q⟩
 ·cases q
theorem evOp_heir {O:Orc}{fl:Nat}{d:Option Nat}{op:AOp}{s:AS}{k:Eff→Foot→Option Res}{r:Res}(hO:OHeir O)(hb:HB s.h s.n)(h:evOp O fl d op s k=some r) :
  evOp O fl d op s (kg s k)=some r:=by
 revert h
 cases op with
 |alloc lc ty z=>cases lc<;>simp only [EVO.down,evOp_apf,evOp_mlk,Bool.cond_eq_ite]<;>(repeat' split)<;>intro h<;>first
  |(cases h;done)
  |exact kg_pos heir0 h
  |exact kg_pos (heir_new rfl) h
 |box lc ty z=>cases lc<;>simp only [EVO.down,evOp_apf,evOp_mlk,Bool.cond_eq_ite]<;>(repeat' split)<;>intro h<;>first
  |(cases h;done)
  |exact kg_pos heir0 h
  |exact kg_pos (heir_new rfl) h
 |len b x=>cases b<;>simp only [EVO.down,evOp_apf,evOp_mlk,Bool.cond_eq_ite]<;>(repeat' split)<;>intro h<;>first
  |(cases h;done)
  |exact kg_pos heir_v h
 |call mode f args=>
  simp only [EVO.down,evOp_apf,evOp_mlk,Bool.cond_eq_ite]
  (repeat' split)<;>intro h
  all_goals first
   |(cases h;done)
   |exact kg_pos heir_v h
   |skip
  all_goals first
   |exact kg_pos (heir_n (hO _ _ _ _ _ _ _ _ (by assumption) hb).1) h
   |exact kg_pos (heir_call (hO _ _ _ _ _ _ _ _ (by assumption) hb) hb) h
   |exact kg_pos ⟨(hO _ _ _ _ _ _ _ _ (by assumption) hb).1,hO _ _ _ _ _ _ _ _ (by assumption) hb⟩ h
 |_=>
  simp only [EVO.down,evOp_apf,evOp_mlk,Bool.cond_eq_ite]
  (repeat' split)<;>intro h<;>first
  |(cases h;done)
  |exact kg_pos heir_v h
  |exact kg_pos heir0 h
  |exact kg_pos (heir_new rfl) h
  |exact kg_pos (heir_move rfl) h
  |exact kg_pos (heir_set (by assumption)) h
theorem evOp_ex {O:Orc}{fl:Nat}{d:Option Nat}{op:AOp}{s:AS}{k:Eff→Foot→Option Res}{r:Res}(h:evOp O fl d op s k=some r):∃ e f,k e f=some r:=by
 revert h
 cases op with
 |alloc lc ty z=>cases lc<;>simp only [EVO.down,evOp_apf,evOp_mlk,Bool.cond_eq_ite]<;>(repeat' split)<;>intro h<;>first
  |(cases h;done)
  |exact ⟨_,_,h⟩
 |box lc ty z=>cases lc<;>simp only [EVO.down,evOp_apf,evOp_mlk,Bool.cond_eq_ite]<;>(repeat' split)<;>intro h<;>first
  |(cases h;done)
  |exact ⟨_,_,h⟩
 |len b x=>cases b<;>simp only [EVO.down,evOp_apf,evOp_mlk,Bool.cond_eq_ite]<;>(repeat' split)<;>intro h<;>first
  |(cases h;done)
  |exact ⟨_,_,h⟩
 |_=>
  simp only [EVO.down,evOp_apf,evOp_mlk,Bool.cond_eq_ite]
  (repeat' split)<;>intro h<;>first
  |(cases h;done)
  |exact ⟨_,_,h⟩
end Go.Proofs.YtchgkmdonhdfeaaGreatDoor.Ab
/- Each operation of the abstract machine does what the model's operation does (seventh part: the call of a function). No condition: lemmas only. -/
set_option linter.unusedVariables false
set_option linter.unusedSimpArgs false
namespace Go.Proofs.YtchgkmdonhdfeaaGreatDoor.Ab
open Go
mutual
theorem VRel.back {θ θ':Th}{n:Nat}(h:∀ id,id<n→θ' id=θ id)(hf:Th.fle θ' θ):∀ (a:AV) (v:Value),AV.old n a=true→VRel θ' a v→VRel θ a v
 | .b _,_,_,r=>r
 | .i _ _,_,_,r=>r
 | .f _ _,_,_,r=>r
 | .c _ _ _,_,_,r=>r
 | .s _,_,_,r=>r
 | .p none,_,_,r=>r
 | .p (some (id,_)),_,o,r=>by
  simp only [VRel,AV.old] at r o ⊢
  rw [Nat.blt_eq] at o
  rw [h id o] at r
  exact r
 | .lp _ _,_,_,r=>r
 | .sl none _ _,_,_,r=>r
 | .sl (some (id,_)) _ _,_,o,r=>by
  simp only [VRel,AV.old] at r o ⊢
  rw [Nat.blt_eq] at o
  rw [h id o] at r
  exact r
 | .fn _ f c,_,o,r=>by
  simp only [VRel,AV.old,Bool.and_eq_true] at r o ⊢
  obtain ⟨x,y,rfl,h1,h2⟩:=r
  exact ⟨x,y,rfl,VRels.back h hf f _ o.1 h1,VRels.back h hf c _ o.2 h2⟩
 | .nilfn,_,_,r=>r
 | .nilif,_,_,r=>r
 | .agg cs,_,o,r=>by
  simp only [VRel,AV.old] at r o ⊢
  obtain ⟨x,rfl,h1⟩:=r
  exact ⟨x,rfl,VRels.back h hf cs _ o h1⟩
 | .tup cs,_,o,r=>by
  simp only [VRel,AV.old] at r o ⊢
  obtain ⟨x,rfl,h1⟩:=r
  exact ⟨x,rfl,VRels.back h hf cs _ o h1⟩
 | .vs _ _ cs,_,o,r=>by
  simp only [VRel,AV.old] at r o ⊢
  rcases r with ⟨b,o',sp,cap',us,rfl,h0,h1,h2,h3,hr,h4⟩|r
  ·exact .inl ⟨b,o',sp,cap',us,rfl,h0,h1,h2,h3.mono hf,hr,VRels.back h hf cs _ o h4⟩
  ·exact .inr r
 | .vp cs,_,o,r=>by
  simp only [VRel,AV.old] at r o ⊢
  obtain ⟨b,o',us,rfl,h3,hr,h4⟩:=r
  exact ⟨b,o',us,rfl,h3.mono hf,hr,VRels.back h hf cs _ o h4⟩
 | .mp cs,_,o,r=>by
  simp only [VRel,AV.old] at r o ⊢
  obtain ⟨b,us,rfl,h3,h4⟩:=r
  exact ⟨b,us,rfl,hf _ _ _ h3,VRels.back h hf cs _ o h4⟩
theorem VRels.back {θ θ':Th}{n:Nat}(h:∀ id,id<n→θ' id=θ id)(hf:Th.fle θ' θ):∀ (a:List AV) (v:List Value),AV.olds n a=true→VRels θ' a v→VRels θ a v
 | [],_,_,r=>r
 |a::as,_,o,r=>by
  simp only [VRels,AV.olds,Bool.and_eq_true] at r o ⊢
  obtain ⟨v,vs,rfl,h1,h2⟩:=r
  exact ⟨v,vs,rfl,VRel.back h hf a v o.1 h1,VRels.back h hf as vs o.2 h2⟩
end
structure Mem (P:Program) (ng:Nat) (θ:Th) (h:AHeap) (w:World):Prop where
 glob:∀ g,g<ng→θ g=some (g,0,0)
 fin:∃ B,∀ id,B≤id→θ id=none
 hp:∀ id x,hget h id=some x→∃ b o c,θ id=some (b,o,c)∧b<w.heap.size∧BRel P θ x b o c w
 dhh:∀ id id' x x' b o c o' c',hget h id=some x→x.own=true→hget h id'=some x'→id≠id'→θ id=some (b,o,c)→θ id'=some (b,o',c')→False
 fzc:∀ b o u,θ.fz b o=some u→wcell w b o=some u
 fzh:∀ id x b o c o' u,hget h id=some x→x.own=true→θ id=some (b,o,c)→θ.fz b o'=some u→False
def M0 (h:AHeap)(fl:Nat)(θ:Th)(b:Nat):Prop:=∃ id x o c,hget h id=some x∧x.own=true∧fl≤id∧θ id=some (b,o,c)
def B0 (h:AHeap)(θ:Th)(b:Nat):Prop:=∃ id x o c,hget h id=some x∧θ id=some (b,o,c)
def cx (w:World)(h:AHeap)(fl ng:Nat)(θ:Th)(N:Nat):Cx:=⟨w,M0 h fl θ,B0 h θ,fl,ng,N,θ.fz⟩
noncomputable def F0 (h:AHeap):FS:=⟨fun _=>none,fun _=>none,hget h⟩
theorem Mem.rep {P:Program}{ng:Nat}{θ:Th}{h:AHeap}{w:World}(m:Mem P ng θ h w)(fl N:Nat)(σ:Nat→Option Nat):RepM P (cx w h fl ng θ N) θ σ (F0 h) w where
 glob:=m.glob
 fin:=m.fin
 loc s cs e:=by simp [F0] at e
 dll s s' cs cs' e:=by simp [F0] at e
 hp:=m.hp
 dlh s cs id x b o c e:=by simp [F0] at e
 dhh:=m.dhh
 ownok id x b o c e q f t:=.inl ⟨id,x,o,c,e,q,f,t⟩
 bok id x b o c e t:=.inl ⟨id,x,o,c,e,t⟩
 chg:=Chg.refl _ _
 fzc:=m.fzc
 fzl s cs b o u e:=by simp [F0] at e
 fzh:=m.fzh
 fzn _ _ _ e:=.inl e
theorem RepM.mem {P:Program}{C:Cx}{θ:Th}{σ:Nat→Option Nat}{F:FS}{w:World}(R:RepM P C θ σ F w){h:AHeap}(hF:∀ id x,hget h id=some x→F.hp id=some x):Mem P C.ng θ h w:=
 ⟨R.glob,R.fin,fun id x e=>R.hp id x (hF id x e),fun id id' x x' b o c o' c' e q e'=>R.dhh id id' x x' b o c o' c' (hF id x e) q (hF id' x' e'),R.fzc,fun id x b o c o' u e=>R.fzh id x b o c o' u (hF id x e)⟩
def CallOk (P:Program)(g:Nat):Prop:=∃ fn c,P.funcs[g]? = some fn∧fn.body=some c∧(fn.name == "runtime.NumGoroutine")=false
def Did (P:Program)(ng:Nat)(h:AHeap)(n fl:Nat)(θ:Th)(w:World)(v:AV)(r:Option (AHeap×Nat))(e:Ending)(w':World):Prop:=
 ∃ u,e=.returned u∧match r with
  |none=>∃ φ:Nat→Nat→Option Value,Th.fle θ ⟨θ.pl,φ⟩∧(∀ b o u,φ b o=some u→θ.fz b o=some u∨(w.heap.size≤b∧wcell w' b o=some u))∧VRel ⟨θ.pl,φ⟩ v u∧Chg (fun _=>False) w w'
  |some (h',n')=>∃ θ',Th.ext θ θ' n n'∧VRel θ' v u∧RepM P (cx w h fl ng θ 0) θ' (fun _=>none) (F0 h') w'
def FreeR (θ:Th)(n:Nat):Option (AHeap×Nat)→Prop
 |none=>True
 |some (_,n')=>Free θ n n'
def OSound (P:Program)(ng:Nat)(O:Orc):Prop:=∀ g args h n fl v r,O g args h n fl=some (v,r)→CallOk P g∧(HB h n→(match r with|none=>True|some (h',n')=>Heir h n h' n')∧
 ∀ (θ:Th) (w:World) (cargs:Array Value),Mem P ng θ h w→VRels θ args cargs.toList→FreeR θ n r→Calls P g cargs w (Did P ng h n (flOf fl n) θ w v r))
theorem OSound.heir {P:Program}{ng:Nat}{O:Orc}(h:OSound P ng O):OHeir O:=fun g args hh n fl v h' n' e hb=>((h g args hh n fl v _ e).2 hb).1
section
variable {P:Program}{C:Cx}{O:Orc}{s:AS}{o:Oper}{k:Eff→Foot→Option Res}{r:Res}
theorem step_call {θ:Th}{σ:Nat→Option Nat}{a:Act}{w:World}{lo hi g:Nat}{cargs:Array Value}{F':FS}{X:Ending→World→Prop}(hrun:(execOp a.eval o).run P w=.ok (.enter g cargs) w)(hc:Calls P g cargs w X)
  (h:∀ e w',X e w'→∃ u θ' σ',e=.returned u∧Th.ext θ θ' lo hi∧Rep P C θ' σ' F' (a.put o.dst u) w'):StepTo P C θ σ lo hi o a w F':=fun K Q hk=>by
 unfold Oper.wp
 rw [hrun,Oper.upon_enter]
 refine hc.mono fun e w' hx=>?_
 obtain ⟨u,θ',σ',rfl,h1,h2⟩:=h e w' hx
 exact hk θ' σ' _ _ h1 h2
theorem call_run {f':Operand}{xs:Array Operand}{ts:Array TypeId}{g:Nat}{f1 c1:Array Value}{a:Act}{w:World}(ho:o.op=.call { callee:=.value f',args:=xs,argTypes:=ts })(hf:a.eval f'=.func (.func g) f1 c1)
  (hg:CallOk P g):(execOp a.eval o).run P w=.ok (.enter g ((f1++xs.map a.eval)++c1)) w:=by
 obtain ⟨fn,c,h1,h2,h3⟩:=hg
 have h3':¬ fn.name = "runtime.NumGoroutine":=by simpa using h3
 simp [execOp,ho,resolve,Deferred.ofValue,hf,invoke,callFunc,h1,h2,h3']
theorem M0_none {h:AHeap}{n m:Nat}{θ:Th}(hb:HB h n)(hm:n≤m){b:Nat}:¬ M0 h m θ b:=fun ⟨id,x,_,_,e,_,f,_⟩=>by
 have:=hb id x e;omega
theorem flOf_frz {n:Nat}:flOf (n+1) n=n+1:=by
 unfold flOf;rw [beq_false.2 (by omega)];rfl
theorem flOf_own {n:Nat}:flOf n n=n:=by
 unfold flOf;rw [beq_false.2 (by omega)];rfl
theorem flOf_raw {fl n:Nat}(h:fl≤n):flOf (bif Nat.beq fl n then n+2 else fl) n=fl:=by
 unfold flOf
 by_cases e:fl=n
 ·subst e;simp [beq_true.2]
 ·rw [beq_false.2 e,cond_false,beq_false.2 (by omega)];rfl
theorem s_call {mode:Nat}{f:AX}{args:List AX}{f':Operand}{xs:Array Operand}{ts:Array TypeId}(hO:OSound P C.ng O)(hb:HB s.h s.n)(ho:o.op=.call { callee:=.value f',args:=xs,argTypes:=ts })
  (ok:okX C.ng f' f=true∧okXs C.ng xs.toList args=true)
  (h:evOp O C.fl o.dst (.call mode f args) s k=some r):OpS P C s o (.call mode f args) k r:=by
 simp only [EVO.down] at h
 split at h
 ·rename_i g f1 c1 hv
  split at h
  ·rename_i as has
   have prep:∀ {F:FS} {θ:Th} {σ:Nat→Option Nat} {a:Act} {w:World},Rep P C θ σ F a w→AgT F s.fr (AOp.call mode f args).rd→CallOk P g→
     ∃ cargs,(execOp a.eval o).run P w=.ok (.enter g cargs) w∧VRels θ (f1++as++c1) cargs.toList:=by
    intro F θ σ a w R ag hg
    have h1:=xn_rel R ok.1 hv ag.left
    have h2:=xns_rel R xs.toList args as (okXs_of ok.2).1 (okXs_of ok.2).2 has ag.right
    simp only [VRel] at h1
    obtain ⟨fa,ca,e1,e2,e3⟩:=h1
    refine ⟨_,call_run ho e1 hg,?_⟩
    simp only [Array.toList_append,Array.toList_map]
    exact (e2.append h2).append e3
   split at h
   ·cases h
   ·rename_i v hO'
    obtain ⟨hg,hs⟩:=hO _ _ _ _ _ _ _ hO'
    obtain ⟨_,hs⟩:=hs hb
    cases hl:v.islp with
    |true=>simp [hl] at h
    |false=>
     rw [hl,cond_false] at h
     refine ⟨_,_,h,Nat.le_refl _,fun F θ σ a w R hd ag _ agh _=>?_⟩
     obtain ⟨cargs,hr,ha⟩:=prep R ag hg
     have hm:=R.m.mem (h:=s.h) (agh.2 rfl)
     refine step_call hr (hs θ w cargs hm ha trivial) fun e w' hx=>?_
     obtain ⟨u,rfl,φ,hf1,hf2,hu,hc⟩:=hx
     exact ⟨u,⟨θ.pl,φ⟩,σ,rfl,⟨fun _=>.inl rfl,hf1⟩,R.m.grow (FS.put_v_loc ..) (FS.put_v_hp ..) hc hf1 hf2,R.t.step ⟨fun _ _ e=>e,hf1⟩ (fun _ _=>rfl) hd (fun x hx=>by cases hx;exact TRel.of hu) (fun s' off e=>by
      simp only [Eff.v,Option.some.injEq] at e
      subst e;simp [VRel] at hu)⟩
   ·rename_i v h' n' hO'
    obtain ⟨hg,hs⟩:=hO _ _ _ _ _ _ _ hO'
    obtain ⟨hh,hs⟩:=hs hb
    cases hl:v.islp with
    |true=>simp [hl] at h
    |false=>
     rw [hl,cond_false] at h
     split at h
     ·-- a scalar
      cases hold:AV.old s.n v with
      |false=>simp [hold] at h
      |true=>
       rw [hold,cond_true] at h
       refine ⟨_,_,h,hh.1,fun F θ σ a w R hd ag _ agh hf=>?_⟩
       obtain ⟨cargs,hr,ha⟩:=prep R ag hg
       have hm:=R.m.mem (h:=s.h) (agh.2 rfl)
       refine step_call hr (hs θ w cargs hm ha hf) fun e w' hx=>?_
       obtain ⟨u,rfl,θ',he,hu,hc⟩:=hx
       have hu':VRel ⟨θ.pl,θ'.fz⟩ v u:=VRel.back (θ:=⟨θ.pl,θ'.fz⟩) (θ':=θ') (fun id hid=>by
        rcases he.pl id with q|⟨_,q,_⟩
        ·exact q
        ·omega) (Th.fle_refl _) v u hold hu
       have hchg:Chg (fun _=>False) w w':=hc.chg.mono fun b _ q=>(M0_none hb (by simp only [callFl];rw [flOf_frz];omega) q).elim
       exact ⟨u,⟨θ.pl,θ'.fz⟩,σ,rfl,⟨fun _=>.inl rfl,he.fz⟩,R.m.grow (FS.put_v_loc ..) (FS.put_v_hp ..) hchg he.fz (fun b o u e=>by
        rcases hc.fzn b o u e with q|q
        ·exact .inl q
        ·exact .inr ⟨q,hc.fzc b o u e⟩),R.t.step ⟨fun _ _ e=>e,he.fz⟩ (fun _ _=>rfl) hd (fun x hx=>by cases hx;exact TRel.of hu') (fun s' off e=>by
        simp only [Eff.v,Option.some.injEq] at e
        subst e;simp [VRel] at hu')⟩
     ·-- new blocks alone
      refine ⟨_,_,h,hh.1,fun F θ σ a w R hd ag _ agh hf=>?_⟩
      obtain ⟨cargs,hr,ha⟩:=prep R ag hg
      have hm:=R.m.mem (h:=s.h) (agh.2 rfl)
      refine step_call hr (hs θ w cargs hm ha hf) fun e w' hx=>?_
      obtain ⟨u,rfl,θ',he,hu,hc⟩:=hx
      have hfl1:flOf (callFl 1 C.fl s.n) s.n=s.n:=flOf_own
      rw [hfl1] at hc
      have hchg:Chg (fun _=>False) w w':=hc.chg.mono fun b _ q=>(M0_none hb (Nat.le_refl _) q).elim
      have hle:=he.le
      have hget':∀ id,(F.put o.dst ⟨some v,[],(hnew h' s.n).map fun p=>(p.1,some p.2),n',none⟩).hp id=if s.n≤id then (hget h' id).or (F.hp id) else F.hp id:=fun id=>by
       simp only [FS.put,hlook_map,hget_hnew]
       by_cases q:s.n≤id
       ·simp only [if_pos q];cases hget h' id<;>rfl
       ·simp only [if_neg q];rfl
      have hnewb:∀ id x b o' c,s.n≤id→hget h' id=some x→θ' id=some (b,o',c)→w.heap.size≤b∧x.own=true:=fun id x b o' c h1 h2 h3=>by
       have hown:x.own=true:=by
        rcases hh.2 id x h2 with ⟨y,hy,_⟩|⟨_,_,q⟩
        ·have:=hb id y hy;omega
        ·exact q
       rcases hc.ownok id x b o' c h2 hown h1 h3 with q|q
       ·exact (M0_none hb (Nat.le_refl _) q).elim
       ·exact ⟨q,hown⟩
      have oldT:∀ id x b o' c,F.hp id=some x→θ' id=some (b,o',c)→θ id=some (b,o',c):=fun id x b o' c h1 h2=>by
       obtain ⟨b1,o1,c1,e1,_⟩:=R.m.hp id x h1
       rw [hle _ _ e1] at h2;rw [e1];exact h2
      have oldb:∀ id x b o' c,F.hp id=some x→θ' id=some (b,o',c)→b<w.heap.size:=fun id x b o' c h1 h2=>by
       obtain ⟨b1,o1,c1,e1,e2,_⟩:=R.m.hp id x h1
       rw [hle _ _ e1] at h2;cases h2;exact e2
      have cas:∀ id x,(F.put o.dst ⟨some v,[],(hnew h' s.n).map fun p=>(p.1,some p.2),n',none⟩).hp id=some x→(s.n≤id∧hget h' id=some x)∨F.hp id=some x:=fun id x hx=>by
       rw [hget'] at hx
       split at hx
       ·rename_i q
        cases q':hget h' id with
        |none=>rw [q'] at hx;exact .inr hx
        |some y=>rw [q'] at hx;exact .inl ⟨q,hx⟩
       ·exact .inr hx
      refine ⟨u,θ',σ,rfl,he,⟨hc.glob,hc.fin,fun s' cs e=>?_,fun s' s2 cs cs2 e e2=>R.m.dll s' s2 cs cs2 e e2,fun id x hx=>?_,fun s' cs id x b o' c e hx ht=>?_,fun id id' x x' b o1 c1 o2 c2 hx hq hx' hne ht ht'=>?_,
       fun id x b o1 c1 hx hq hfl ht=>?_,fun id x b o1 c1 hx ht=>?_,R.m.chg.trans hchg (fun _ _ q=>q.elim),hc.fzc,fun s' cs b o u e e1 e2=>?_,fun id x b o c o' u hx hq e1 e2=>?_,fun b o u e=>?_⟩,R.t.step hle (fun _ _=>rfl) hd (fun x hx=>by cases hx;exact TRel.of hu) (fun s' off e=>by
        simp only [Option.some.injEq] at e
        subst e;simp [VRel] at hu)⟩
      ·obtain ⟨b,arr,ty,g1,g2,g3,g4⟩:=R.m.loc s' cs e
       exact ⟨b,arr,ty,g1,g2,by rw [hchg.block b (hlt g3) (fun q=>q)];exact g3,VRels.mono hle _ _ g4⟩
      ·rcases cas id x hx with ⟨q1,q2⟩|q
       ·exact hc.hp id x q2
       ·obtain ⟨b,o1,c1,g1,g2,g3⟩:=R.m.hp id x q
        exact ⟨b,o1,c1,hle _ _ g1,Nat.lt_of_lt_of_le g2 hchg.size,g3.keep P hle hchg (fun q=>q)⟩
      ·rcases cas id x hx with ⟨q1,q2⟩|q
       ·have:=(hnewb id x b o' c q1 q2 ht).1
        obtain ⟨b',arr,ty,g1,g2,g3,g4⟩:=R.m.loc s' cs e
        intro z;rw [g1] at z;cases z
        exact absurd (hlt g3) (by omega)
       ·exact R.m.dlh s' cs id x b o' c e q (oldT id x b o' c q ht)
      ·rcases cas id x hx with ⟨q1,q2⟩|q<;>rcases cas id' x' hx' with ⟨q1',q2'⟩|q'
       ·exact hc.dhh id id' x x' b o1 c1 o2 c2 q2 hq q2' hne ht ht'
       ·have:=(hnewb id x b o1 c1 q1 q2 ht).1
        have:=oldb id' x' b o2 c2 q' ht'
        omega
       ·have:=(hnewb id' x' b o2 c2 q1' q2' ht').1
        have:=oldb id x b o1 c1 q ht
        omega
       ·exact R.m.dhh id id' x x' b o1 c1 o2 c2 q hq q' hne (oldT _ _ _ _ _ q ht) (oldT _ _ _ _ _ q' ht')
      ·rcases cas id x hx with ⟨q1,q2⟩|q
       ·exact .inr (Nat.le_trans R.m.chg.size (hnewb id x b o1 c1 q1 q2 ht).1)
       ·exact R.m.ownok id x b o1 c1 q hq hfl (oldT _ _ _ _ _ q ht)
      ·rcases cas id x hx with ⟨q1,q2⟩|q
       ·exact .inr (Nat.le_trans R.m.chg.size (hnewb id x b o1 c1 q1 q2 ht).1)
       ·exact R.m.bok id x b o1 c1 q (oldT _ _ _ _ _ q ht)
      ·rcases hc.fzn b o u e2 with q|q
       ·exact R.m.fzl s' cs b o u e e1 q
       ·obtain ⟨b',arr,ty,g1,g2,g3,g4⟩:=R.m.loc s' cs e
        rw [e1] at g1;cases g1
        have:w.heap.size≤b:=q
        exact absurd (hlt g3) (by omega)
      ·rcases cas id x hx with ⟨q1,q2⟩|q
       ·exact hc.fzh id x b o c o' u q2 hq e1 e2
       ·rcases hc.fzn b o' u e2 with z|z
        ·exact R.m.fzh id x b o c o' u q hq (oldT _ _ _ _ _ q e1) z
        ·have:w.heap.size≤b:=z
         have:=oldb id x b o c q e1
         omega
      ·rcases hc.fzn b o u e with q|q
       ·exact R.m.fzn b o u q
       ·exact .inr (Nat.le_trans R.m.chg.size q)
     ·-- whatever
      rename_i hm0 hm1
      have hble:C.fl≤s.n:=by
       cases q:Nat.ble C.fl s.n with
       |true=>exact Nat.le_of_ble_eq_true q
       |false=>rw [q] at h;cases h
      rw [Nat.ble_eq_true_of_le hble,cond_true] at h
      refine ⟨_,_,h,hh.1,fun F θ σ a w R hd ag _ agh hf=>?_⟩
      obtain ⟨cargs,hr,ha⟩:=prep R ag hg
      have hm:=R.m.mem (h:=s.h) (agh.2 rfl)
      refine step_call hr (hs θ w cargs hm ha hf) fun e w' hx=>?_
      obtain ⟨u,rfl,θ',he,hu,hc⟩:=hx
      have hle:=he.le
      have hfl:flOf (callFl mode C.fl s.n) s.n=C.fl:=by
       unfold callFl;split
       ·exact (hm0 rfl).elim
       ·exact (hm1 rfl).elim
       ·exact flOf_raw hble
      rw [hfl] at hc
      have own:∀ b,M0 s.h C.fl θ b→C.M0 b∨C.w0.heap.size≤b:=fun b ⟨id,x,o',c,e,q,f,t⟩=>R.m.ownok id x b o' c (agh.2 rfl id x e) q f t
      have bk:∀ b,B0 s.h θ b→C.B0 b∨C.w0.heap.size≤b:=fun b ⟨id,x,o',c,e,t⟩=>R.m.bok id x b o' c (agh.2 rfl id x e) t
      have slot:∀ s' cs b,F.loc s'=some cs→σ s'=some b→¬ B0 s.h θ b:=fun s' cs b e1 e2 ⟨id,x,o',c,e,t⟩=>R.m.dlh s' cs id x b o' c e1 (agh.2 rfl id x e) t e2
      have slotM:∀ s' cs b,F.loc s'=some cs→σ s'=some b→¬ M0 s.h C.fl θ b:=fun s' cs b e1 e2 ⟨id,x,o',c,e,_,_,t⟩=>slot s' cs b e1 e2 ⟨id,x,o',c,e,t⟩
      refine ⟨u,θ',σ,rfl,he,⟨hc.glob,hc.fin,fun s' cs e=>?_,fun s' s2 cs cs2 e e2=>R.m.dll s' s2 cs cs2 e e2,hc.hp,fun s' cs id x b o' c e hx ht z=>?_,hc.dhh,
       fun id x b o1 c1 hx hq hfl' ht=>?_,fun id x b o1 c1 hx ht=>?_,R.m.chg.trans hc.chg (fun b hlt' q=>?_),hc.fzc,fun s' cs b o u e e1 e2=>?_,hc.fzh,fun b o u e=>?_⟩,R.t.step hle (fun _ _=>rfl) hd (fun x hx=>by cases hx;exact TRel.of hu) (fun s' off e=>by
        simp only [Option.some.injEq] at e
        subst e;simp [VRel] at hu)⟩
      ·obtain ⟨b,arr,ty,g1,g2,g3,g4⟩:=R.m.loc s' cs e
       exact ⟨b,arr,ty,g1,g2,by rw [hc.chg.block b (hlt g3) (slotM s' cs b e g1)];exact g3,VRels.mono hle _ _ g4⟩
      ·obtain ⟨b',arr,ty,g1,g2,g3,g4⟩:=R.m.loc s' cs e
       rw [z] at g1;cases g1
       rcases hc.bok id x b o' c hx ht with q|q
       ·exact slot s' cs b e z q
       ·exact absurd (hlt g3) (by have:w.heap.size≤b:=q;omega)
      ·rcases hc.ownok id x b o1 c1 hx hq hfl' ht with q|q
       ·exact own b q
       ·exact .inr (Nat.le_trans R.m.chg.size q)
      ·rcases hc.bok id x b o1 c1 hx ht with q|q
       ·exact bk b q
       ·exact .inr (Nat.le_trans R.m.chg.size q)
      ·rcases own b q with z|z
       ·exact z
       ·omega
      ·rcases hc.fzn b o u e2 with q|q
       ·exact R.m.fzl s' cs b o u e e1 q
       ·obtain ⟨b',arr,ty,g1,g2,g3,g4⟩:=R.m.loc s' cs e
        rw [e1] at g1;cases g1
        have:w.heap.size≤b:=q
        exact absurd (hlt g3) (by omega)
      ·rcases hc.fzn b o u e with q|q
       ·exact R.m.fzn b o u q
       ·exact .inr (Nat.le_trans R.m.chg.size q)
  ·cases h
 ·cases h
end
end Go.Proofs.YtchgkmdonhdfeaaGreatDoor.Ab
/- Each operation of the abstract machine does what the model's operation does (last part: which abstract operation stands for which). No condition: definitions and lemmas only. -/
set_option linter.unusedVariables false
set_option linter.unusedSimpArgs false
namespace Go.Proofs.YtchgkmdonhdfeaaGreatDoor.Ab
open Go
def okCall (P:Program)(ng:Nat)(c:Call):AOp→Bool
 | .call _ f args=>match c.callee with
  | .value f'=>okX ng f' f&&okXs ng c.args.toList args
  |_=>false
 | .len str x=>match c with
  |⟨.builtin .len,⟨[x']⟩,⟨[t]⟩⟩=>okX ng x' x&&(match P.underlying t with|some .string=>str|some (.slice _)=>!str|_=>false)
  |_=>false
 | .mm mx x y=>match c with
  |⟨.builtin .max,⟨[x',y']⟩,⟨[_,_]⟩⟩=>mx&&okX ng x' x&&okX ng y' y
  |⟨.builtin .min,⟨[x',y']⟩,⟨[_,_]⟩⟩=>!mx&&okX ng x' x&&okX ng y' y
  |_=>false
 | .app ety esz bytes x y=>match c with
  |⟨.builtin .append,⟨[x',y']⟩,⟨[t,t']⟩⟩=>Nat.beq t t'&&okX ng x' x&&okX ng y' y&&appOk P t ety esz bytes
  |_=>false
 | .apf ety esz bytes x y=>match c with
  |⟨.builtin .append,⟨[x',y']⟩,⟨[t,t']⟩⟩=>Nat.beq t t'&&okX ng x' x&&okX ng y' y&&appOk P t ety esz bytes
  |_=>false
 | .pop p xs=>match c with
  |⟨.builtin .real,⟨[x']⟩,_⟩=>(match p with | .re=>okXs ng [x'] xs|_=>false)
  |⟨.builtin .imag,⟨[x']⟩,_⟩=>(match p with | .im=>okXs ng [x'] xs|_=>false)
  |⟨.value (.func f),⟨[x']⟩,_⟩=>(match p with
   | .fbits=>isExt P f "math.Float64bits" && okXs ng [x'] xs
   | .ffrom=>isExt P f "math.Float64frombits" && okXs ng [x'] xs
   |_=>false)
  |⟨.builtin .complex,⟨[x',y']⟩,_⟩=>(match p with | .mk=>okXs ng [x',y'] xs|_=>false)
  |_=>false
 |_=>false
def okBin (P:Program)(ng:Nat)(op':BinOp)(t:TypeId)(x' y':Operand):AOp→Bool
 | .bin op x y=>decide (op'=op)&&okX ng x' x&&okX ng y' y
 | .eqs neg bs x y=>decide (op'=if neg then .neq else .eql)&&okX ng x' x&&okX ng y' y&&eqsOk P t bs
 | .eqb neg x y=>decide (op'=if neg then .neq else .eql)&&okX ng x' x&&okX ng y' y&&(match P.underlying t with|some .bool=>true|_=>false)
 | .eqnil neg x=>decide (op'=if neg then .neq else .eql)&&okX ng x' x&&(match y' with | .const (.slice none 0 0)=>true|_=>false)&&(match P.underlying t with|some (.slice _)=>true|_=>false)
 | .pop (.fbin op) xs=>decide (op'=op)&&okXs ng [x',y'] xs
 | .pop (.fcmp op) xs=>decide (op'=op)&&okXs ng [x',y'] xs
 | .pop (.ceq neg) xs=>decide (op'=if neg then .neq else .eql)&&okXs ng [x',y'] xs
 | .pop (.pnil neg) xs=>decide (op'=if neg then .neq else .eql)&&okXs ng [x'] xs&&(match y' with | .const (.pointer none)=>true|_=>false)&&(match P.underlying t with|some (.pointer e)=>Nat.beq e (P.pointee t)|_=>false)
 |_=>false
def okIdx (P:Program)(ng:Nat)(t:TypeId)(x' i':Operand):AOp→Bool
 | .idx esz agg len x i=>okX ng x' x&&okX ng i' i&&idxOk P t len esz agg
 | .idxs x i=>okX ng x' x&&okX ng i' i&&(match P.underlying t with|some .string=>true|_=>false)
 |_=>false
def okIadr (P:Program)(ng:Nat)(t:TypeId)(x' i':Operand):AOp→Bool
 | .iadr esz x i=>okX ng x' x&&okX ng i' i&&sliceE P t esz
 | .iadra esz len x i=>okX ng x' x&&okX ng i' i&&arrayE P t len esz
 |_=>false
def okOp (P:Program)(ng:Nat)(o:Op)(ao:AOp):Bool:=
 match o with
 | .move y | .assign y=>match ao with | .mv x=>okX ng y x|_=>false
 | .pick c' x' y'=>match ao with | .pick c x y=>okX ng c' c&&okX ng x' x&&okX ng y' y|_=>false
 | .alloc t=>match ao with | .alloc _ ty z=>Nat.beq t ty&&zeroOk P ty z|_=>false
 | .box t y=>match ao with | .box _ ty x=>Nat.beq t ty&&okX ng y x|_=>false
 | .build t parts=>match ao with | .build z ps=>buildOk P ng t parts z ps|_=>false
 | .buildSlice t len parts=>match ao with | .bslice ety esz alen z ps=>bsliceOk P ng t len parts ety esz alen z ps|_=>false
 | .load t y=>match ao with | .load sz x=>okX ng y x&&decide (lie P t=some sz)|_=>false
 | .store t y z=>match ao with | .store sz x v=>okX ng y x&&okX ng z v&&decide ((P.info? t).map (·.size)=some sz)|_=>false
 | .binOp op t x y _=>okBin P ng op t x y ao
 | .nilCheck y=>match ao with | .nchk x=>okX ng y x|_=>false
 | .unOp op t x'=>match ao with
  | .un op' x=>decide (op=op')&&okX ng x' x
  | .pop .fneg xs=>decide (op=.neg)&&okXs ng [x'] xs
  |_=>false
 | .convert src dst x'=>match ao with
  | .conv kd x=>okX ng x' x&&(P.underlying src).isSome&&(match P.underlying dst with|some (.int k)=>IntKind.same k kd|_=>false)
  | .pop .ofi xs=>okXs ng [x'] xs&&(P.underlying src).isSome&&(match P.underlying dst with|some (.float .f64)=>true|_=>false)
  | .pop (.toi kd) xs=>okXs ng [x'] xs&&(P.underlying src).isSome&&(match P.underlying dst with|some (.int k)=>IntKind.same k kd|_=>false)
  |_=>false
 | .makeFunc fn f1 c1=>match ao with | .mkf fn' f2 c2=>decide (fn=fn')&&okXs ng f1.toList f2&&okXs ng c1.toList c2|_=>false
 | .makeSlice t x' y'=>match ao with | .mks ety esz bytes z x y=>okX ng x' x&&okX ng y' y&&mksOk P t ety esz bytes z|_=>false
 | .slice t x' lo' hi' mx'=>match ao with | .slc esz x lo hi mx=>okX ng x' x&&okXo ng lo' lo&&okXo ng hi' hi&&okXo ng mx' mx&&(!mx.isSome||hi.isSome)&&sliceE P t esz|_=>false
 | .fieldAddr t x' j=>match ao with | .fadr off x=>okX ng x' x&&fieldOff P t j off|_=>false
 | .field t x' j=>match ao with | .fld off sz x=>okX ng x' x&&fieldLie P t j off sz|_=>false
 | .indexAddr t x' i'=>okIadr P ng t x' i' ao
 | .index t x' i'=>okIdx P ng t x' i' ao
 | .lookup t x' y' c=>match ao with | .mlk kd z x y=>c&&okX ng x' x&&okX ng y' y&&mlkOk P t kd z|_=>false
 | .extract x' j=>match ao with | .ext x i=>Nat.beq i j&&okX ng x' x|_=>false
 | .call c=>okCall P ng c ao
 |_=>false
section
variable {P:Program}{C:Cx}{O:Orc}{s:AS}{o:Oper}{k:Eff→Foot→Option Res}{r:Res}
theorem call_sound {c:Call}{ao:AOp}(hO:OSound P C.ng O)(hb:HB s.h s.n)(ho:o.op=.call c)(ok:okCall P C.ng c ao=true)(h:evOp O C.fl o.dst ao s k=some r):OpS P C s o ao k r:=by
 unfold okCall at ok
 split at ok
 ·split at ok
  ·rename_i f' hc
   obtain ⟨cal,ar,ts⟩:=c
   simp only at hc;subst hc
   simp only [Bool.and_eq_true] at ok
   exact s_call hO hb ho ok h
  ·cases ok
 ·split at ok
  ·simp only [Bool.and_eq_true] at ok
   exact s_len (t':=0) ho ok.1 ok.2 h
  ·cases ok
 ·split at ok
  ·simp only [Bool.and_eq_true] at ok
   rename_i mx _ _ _ _ _ _ _
   obtain ⟨⟨q,o1⟩,o2⟩:=ok
   subst q
   exact s_mm (mx:=true) (by simpa using ho) ⟨o1,o2⟩ h
  ·simp only [Bool.and_eq_true] at ok
   rename_i mx _ _ _ _ _ _ _
   obtain ⟨⟨q,o1⟩,o2⟩:=ok
   cases mx with
   |true=>simp at q
   |false=>exact s_mm (mx:=false) (by simpa using ho) ⟨o1,o2⟩ h
  ·cases ok
 ·split at ok
  ·simp only [Bool.and_eq_true] at ok
   obtain ⟨⟨⟨q,o1⟩,o2⟩,o3⟩:=ok
   have q:=beq_true.1 q;subst q
   exact s_app ho ⟨o1,o2⟩ o3 h
  ·cases ok
 ·split at ok
  ·simp only [Bool.and_eq_true] at ok
   obtain ⟨⟨⟨q,o1⟩,o2⟩,o3⟩:=ok
   have q:=beq_true.1 q;subst q
   exact s_apf ho ⟨o1,o2⟩ o3 h
  ·cases ok
 ·split at ok
  ·split at ok
   ·exact s_pop (p_re ho) ok h
   ·cases ok
  ·split at ok
   ·exact s_pop (p_im ho) ok h
   ·cases ok
  ·split at ok
   ·simp only [Bool.and_eq_true] at ok;exact s_pop (p_fbits ho ok.1) ok.2 h
   ·simp only [Bool.and_eq_true] at ok;exact s_pop (p_ffrom ho ok.1) ok.2 h
   ·cases ok
  ·split at ok
   ·exact s_pop (p_mk ho) ok h
   ·cases ok
  ·cases ok
 ·cases ok
theorem bin_sound {op':BinOp}{t t':TypeId}{x' y':Operand}{ao:AOp}(ho:o.op=.binOp op' t x' y' t')(ok:okBin P C.ng op' t x' y' ao=true)(h:evOp O C.fl o.dst ao s k=some r):OpS P C s o ao k r:=by
 unfold okBin at ok
 split at ok
 ·simp only [Bool.and_eq_true,decide_eq_true_eq] at ok
  obtain ⟨⟨q,o1⟩,o2⟩:=ok;subst q
  exact s_bin ho ⟨o1,o2⟩ h
 ·simp only [Bool.and_eq_true,decide_eq_true_eq] at ok
  obtain ⟨⟨⟨q,o1⟩,o2⟩,o3⟩:=ok;subst q
  exact s_eqs ho ⟨o1,o2⟩ o3 h
 ·simp only [Bool.and_eq_true,decide_eq_true_eq] at ok
  obtain ⟨⟨⟨q,o1⟩,o2⟩,o3⟩:=ok;subst q
  refine s_eqb ho ⟨o1,o2⟩ ?_ h
  split at o3
  ·assumption
  ·cases o3
 ·simp only [Bool.and_eq_true,decide_eq_true_eq] at ok
  obtain ⟨⟨⟨q,o1⟩,o2⟩,o3⟩:=ok;subst q
  split at o2
  ·split at o3
   ·exact s_eqnil ho o1 (by assumption) h
   ·cases o3
  ·cases o2
 ·simp only [Bool.and_eq_true,decide_eq_true_eq] at ok
  obtain ⟨q,o1⟩:=ok;subst q
  exact s_pop (p_fbin ho) o1 h
 ·simp only [Bool.and_eq_true,decide_eq_true_eq] at ok
  obtain ⟨q,o1⟩:=ok;subst q
  exact s_pop (p_fcmp ho) o1 h
 ·simp only [Bool.and_eq_true,decide_eq_true_eq] at ok
  obtain ⟨q,o1⟩:=ok;subst q
  exact s_pop (p_ceq ho) o1 h
 ·simp only [Bool.and_eq_true,decide_eq_true_eq] at ok
  obtain ⟨⟨⟨q,o1⟩,o2⟩,o3⟩:=ok;subst q
  split at o2
  ·split at o3
   ·have q:=beq_true.1 o3
    rename_i e he
    exact s_pop (p_pnil ho (by rw [he,q])) o1 h
   ·cases o3
  ·cases o2
 ·cases ok
theorem idx_sound {t:TypeId}{x' i':Operand}{ao:AOp}(ho:o.op=.index t x' i')(ok:okIdx P C.ng t x' i' ao=true)(h:evOp O C.fl o.dst ao s k=some r):OpS P C s o ao k r:=by
 unfold okIdx at ok
 split at ok
 ·simp only [Bool.and_eq_true] at ok
  exact s_idx ho ok.1 ok.2 h
 ·simp only [Bool.and_eq_true] at ok
  refine s_idxs ho ok.1 ?_ h
  have:=ok.2
  split at this
  ·assumption
  ·cases this
 ·cases ok
theorem iadr_sound {t:TypeId}{x' i':Operand}{ao:AOp}(ho:o.op=.indexAddr t x' i')(ok:okIadr P C.ng t x' i' ao=true)(h:evOp O C.fl o.dst ao s k=some r):OpS P C s o ao k r:=by
 unfold okIadr at ok
 split at ok
 ·simp only [Bool.and_eq_true] at ok
  exact s_iadr ho ok.1 ok.2 h
 ·simp only [Bool.and_eq_true] at ok
  exact s_iadra ho ok.1 ok.2 h
 ·cases ok
theorem op_sound {ao:AOp}(hO:OSound P C.ng O)(hb:HB s.h s.n)(ok:okOp P C.ng o.op ao=true)(h:evOp O C.fl o.dst ao s k=some r):OpS P C s o ao k r:=by
 unfold okOp at ok
 split at ok
 ·split at ok
  ·exact s_mv (.inl (by assumption)) ok h
  ·cases ok
 ·split at ok
  ·exact s_mv (.inr (by assumption)) ok h
  ·cases ok
 ·split at ok
  ·simp only [Bool.and_eq_true] at ok;exact s_pick (by assumption) ⟨ok.1.1,ok.1.2,ok.2⟩ h
  ·cases ok
 ·split at ok
  ·simp only [Bool.and_eq_true] at ok
   have q:=beq_true.1 ok.1;subst q
   exact s_alloc (by assumption) ok.2 h
  ·cases ok
 ·split at ok
  ·simp only [Bool.and_eq_true] at ok
   have q:=beq_true.1 ok.1;subst q
   exact s_box (by assumption) ok.2 h
  ·cases ok
 ·split at ok
  ·exact s_build (by assumption) ok h
  ·cases ok
 ·split at ok
  ·exact s_bslice (by assumption) ok h
  ·cases ok
 ·split at ok
  ·simp only [Bool.and_eq_true,decide_eq_true_eq] at ok;exact s_load (by assumption) ok.1 ok.2 h
  ·cases ok
 ·split at ok
  ·simp only [Bool.and_eq_true,decide_eq_true_eq] at ok;exact s_store (by assumption) ok.1 ok.2 h
  ·cases ok
 ·exact bin_sound (by assumption) ok h
 ·split at ok
  ·exact s_nchk (by assumption) ok h
  ·cases ok
 ·split at ok
  ·simp only [Bool.and_eq_true,decide_eq_true_eq] at ok
   obtain ⟨q,o1⟩:=ok;subst q
   exact s_un (by assumption) o1 h
  ·simp only [Bool.and_eq_true,decide_eq_true_eq] at ok
   obtain ⟨q,o1⟩:=ok;subst q
   exact s_pop (p_fneg (by assumption)) o1 h
  ·cases ok
 ·split at ok
  ·simp only [Bool.and_eq_true] at ok
   obtain ⟨⟨o1,o2⟩,o3⟩:=ok
   refine s_conv (by assumption) o1 o2 ?_ h
   split at o3
   ·rename_i k2 hk;rw [hk,same_eq o3]
   ·cases o3
  ·simp only [Bool.and_eq_true] at ok
   obtain ⟨⟨o1,o2⟩,o3⟩:=ok
   split at o3
   ·exact s_pop (p_ofi (by assumption) o2 (by assumption)) o1 h
   ·cases o3
  ·simp only [Bool.and_eq_true] at ok
   obtain ⟨⟨o1,o2⟩,o3⟩:=ok
   split at o3
   ·rename_i k2 hk
    exact s_pop (p_toi (by assumption) o2 (by rw [hk,same_eq o3])) o1 h
   ·cases o3
  ·cases ok
 ·split at ok
  ·simp only [Bool.and_eq_true,decide_eq_true_eq] at ok
   obtain ⟨⟨q,o1⟩,o2⟩:=ok;subst q
   exact s_mkf (by assumption) ⟨o1,o2⟩ h
  ·cases ok
 ·split at ok
  ·simp only [Bool.and_eq_true] at ok;exact s_mks (by assumption) ok.1 ok.2 h
  ·cases ok
 ·split at ok
  ·simp only [Bool.and_eq_true] at ok
   obtain ⟨⟨⟨⟨⟨o1,o2⟩,o3⟩,o4⟩,o5⟩,o6⟩:=ok
   exact s_slc (by assumption) o1 ⟨o2,o3,o4⟩ o5 o6 h
  ·cases ok
 ·split at ok
  ·simp only [Bool.and_eq_true] at ok;exact s_fadr (by assumption) ok.1 ok.2 h
  ·cases ok
 ·split at ok
  ·simp only [Bool.and_eq_true] at ok;exact s_fld (by assumption) ok.1 ok.2 h
  ·cases ok
 ·exact iadr_sound (by assumption) ok h
 ·exact idx_sound (by assumption) ok h
 ·split at ok
  ·simp only [Bool.and_eq_true] at ok
   obtain ⟨⟨⟨o1,o2⟩,o3⟩,o4⟩:=ok
   subst o1
   exact s_mlk (by assumption) ⟨o2,o3⟩ o4 h
  ·cases ok
 ·split at ok
  ·simp only [Bool.and_eq_true] at ok
   have q:=beq_true.1 ok.1;subst q
   exact s_ext (by assumption) ok.2 h
  ·cases ok
 ·exact call_sound hO hb (by assumption) ok h
 ·cases ok
theorem op_all {ao:AOp}(hO:OSound P C.ng O)(hb:HB s.h s.n)(ok:okOp P C.ng o.op ao=true)(h:evOp O C.fl o.dst ao s k=some r) :
  ∃ e f,k e f=some r∧HeirE s e∧s.n≤e.n∧OpOK P C s o ao e f:=by
 obtain ⟨e,f,h1,h2,h3⟩:=op_sound hO hb ok (evOp_heir hO.heir hb h)
 obtain ⟨q1,q2⟩:=kg_of h1
 exact ⟨e,f,q2,q1,h2,h3⟩
end
end Go.Proofs.YtchgkmdonhdfeaaGreatDoor.Ab
/- What an evaluation comes to: the memory's heirs, numbers that grow; and regions whose operations go in the order of the text. No condition: lemmas only. -/
set_option linter.unusedVariables false
set_option linter.unusedSimpArgs false
namespace Go.Proofs.YtchgkmdonhdfeaaGreatDoor.Ab
open Go
theorem undef_put (s:AS)(d:Option Nat):s.undef d=s.put d ⟨some (.tup []),[],[],s.n,none⟩:=rfl
theorem undef_rel {θ:Th}{σ:Nat→Option Nat}{x:AV}(h:some (AV.tup [])=some x):TRel θ σ x undef:=by
 cases h
 exact ⟨#[],rfl,rfl⟩
section
variable {O:Orc}{fl:Nat}{r:Res}
theorem op_ex {d:Option Nat}{op:AOp}{s:AS}{k:Eff→Foot→Option Res}(hO:OHeir O)(hb:HB s.h s.n)(h:evOp O fl d op s k=some r):∃ e f,k e f=some r∧HeirE s e:=by
 obtain ⟨e,f,q⟩:=evOp_ex (evOp_heir hO hb h)
 exact ⟨e,f,(kg_of q).2,(kg_of q).1⟩
theorem evOps_heir (hO:OHeir O){k:AS→Option Res}:∀ (l:List AOper) (s:AS),HB s.h s.n→evOps O fl l s k=some r→∃ s',k s'=some r∧Heir s.h s.n s'.h s'.n
 | [],s,_,h=>⟨s,h,Heir.refl _ _⟩
 |o::l,s,hb,h=>by
  have run:evOp O fl o.dst o.op s (fun e _=>evOps O fl l (s.put o.dst e) k)=some r→∃ s',k s'=some r∧Heir s.h s.n s'.h s'.n:=fun h=>by
   obtain ⟨e,f,h1,h2⟩:=op_ex hO hb h
   have hp:=h2.put o.dst
   obtain ⟨s',g1,g2⟩:=evOps_heir hO l _ (hp.hb hb) h1
   exact ⟨s',g1,hp.trans g2⟩
  have skip:evOps O fl l (s.undef o.dst) k=some r→∃ s',k s'=some r∧Heir s.h s.n s'.h s'.n:=fun h=>evOps_heir hO l (s.undef o.dst) hb h
  simp only [evOps] at h
  split at h
  ·exact run h
  ·rename_i t w hgd
   clear hgd
   split at h
   ·cases w
    ·exact skip h
    ·exact run h
   ·cases w
    ·exact run h
    ·exact skip h
   ·exact skip h
   ·cases h
theorem hb_hide {s:AS}{l:List Nat}(hb:HB s.h s.n):HB (hhide l s.h) s.n:=fun id x e=>by
 rw [hget_hhide] at e
 split at e
 ·cases e
 ·exact hb id x e
theorem hhide_no:∀ h:AHeap,hhide [] h=h
 | []=>rfl
 |(k,b)::r=>by simp only [hhide,List.elem_nil,cond_false,hhide_no r]
theorem okAll_wide {s:AS}{e:Eff}{l:List Nat}{j bef:Nat}{r:List AOper}(h2:HeirE { s with h:=hhide l s.h } e)(hq:okAll j bef e.all r l=true):HeirE s e:=by
 cases ha:e.all with
 |none=>exact h2.wide ha
 |some h=>
  rw [ha] at hq
  simp only [okAll,Bool.and_eq_true,List.isEmpty_iff] at hq
  obtain ⟨_,rfl⟩:=hq
  rw [hhide_no] at h2
  exact h2
theorem evDraw_heir (hO:OHeir O){k:AS→Option Res}:∀ (l:List AOper) (j:Nat) (s:AS) (rs:List Rec),HB s.h s.n→evDraw O fl j l s rs k=some r→∃ s',k s'=some r∧Heir s.h s.n s'.h s'.n
 | [],_,s,_,_,h=>⟨s,h,Heir.refl _ _⟩
 |o::l,j,s,rs,hb,h=>by
  have run:(evOp O fl o.dst o.op { s with h:=hhide (hidden o.bef rs) s.h } fun e f=>
    let x:Rec:=⟨j,f.hide s.n (hidden o.bef rs),o.dst,e⟩
    bif okAll j o.bef e.all l (hidden o.bef rs)&&apartAll o.bef x rs then evDraw O fl (j+1) l (s.put o.dst e) (x::rs) k else none)=some r→∃ s',k s'=some r∧Heir s.h s.n s'.h s'.n:=fun h=>by
   obtain ⟨e,f,h1,h2⟩:=op_ex (s:={ s with h:=hhide (hidden o.bef rs) s.h }) hO (hb_hide hb) h
   simp only at h1
   cases hw:okAll j o.bef e.all l (hidden o.bef rs) with
   |false=>simp [hw] at h1
   |true=>
    have h2:=(okAll_wide h2 hw).put o.dst
    cases hq:apartAll o.bef ⟨j,f.hide s.n (hidden o.bef rs),o.dst,e⟩ rs with
    |false=>simp [hq] at h1
    |true=>
     rw [hw,hq,Bool.and_self,cond_true] at h1
     obtain ⟨s',g1,g2⟩:=evDraw_heir hO l _ _ _ (h2.hb hb) h1
     exact ⟨s',g1,h2.trans g2⟩
  have skip:∀ {x:Rec},evDraw O fl (j+1) l (s.undef o.dst) (x::rs) k=some r→∃ s',k s'=some r∧Heir s.h s.n s'.h s'.n:=fun h=>evDraw_heir hO l (j+1) (s.undef o.dst) _ hb h
  simp only [evDraw] at h
  split at h
  ·exact run h
  ·rename_i t w hgd
   clear hgd
   split at h
   ·cases w
    ·exact skip h
    ·exact run h
   ·cases w
    ·exact run h
    ·exact skip h
   ·exact skip h
   ·cases h
theorem evLoop_heir {body:AS→(AE→AS→Option Res)→Option Res}
  (hb':∀ (s:AS) (k:AE→AS→Option Res),HB s.h s.n→body s k=some r→∃ e s',k e s'=some r∧Heir s.h s.n s'.h s'.n) {k:AE→AS→Option Res} :
  ∀ (f:Nat) (s:AS),HB s.h s.n→evLoop body f s k=some r→∃ e s',k e s'=some r∧Heir s.h s.n s'.h s'.n
 |0,s,_,h=>by simp [evLoop] at h
 |f+1,s,hb,h=>by
  simp only [evLoop] at h
  obtain ⟨e,s',h1,h2⟩:=hb' s _ hb h
  cases e with
  |nrm=>
   obtain ⟨e,s2,g1,g2⟩:=evLoop_heir hb' f s' (h2.hb hb) h1
   exact ⟨e,s2,g1,h2.trans g2⟩
  |ex id=>exact ⟨_,s',h1,h2⟩
  |ret=>exact ⟨_,s',h1,h2⟩
theorem keep_same {s s':AS}{ts ls:List Nat}(h:s.keep ts ls=some s'):s'.h=s.h∧s'.n=s.n∧s'.fr=keepT s.fr ts∧s'.loc=keepL s.loc ls∧lpOk (keepL s.loc ls) (keepT s.fr ts)=true:=by
 unfold AS.keep at h
 simp only at h
 cases q:lpOk (keepL s.loc ls) (keepT s.fr ts) with
 |false=>simp [q] at h
 |true=>simp [q] at h;subst h;exact ⟨rfl,rfl,rfl,rfl,rfl⟩
def AC.nog:AC→Bool
 | .seq a b=>a.nog&&b.nog
 | .ite _ a b=>a.nog&&b.nog
 | .blk _ a=>a.nog
 | .loop a=>a.nog
 | .cut _ _ a=>a.nog
 | .cutg _ _ _ _=>false
 |_=>true
theorem evC_heir (hO:OHeir O){F:Nat}:∀ (c:AC) (s:AS) (k:AE→AS→Option Res),c.nog=true→HB s.h s.n→evC O fl F c s k=some r→∃ e s',k e s'=some r∧Heir s.h s.n s'.h s'.n
 | .skip,s,k,_,_,h=>⟨.nrm,s,h,Heir.refl _ _⟩
 | .ret,s,k,_,_,h=>⟨.ret,s,h,Heir.refl _ _⟩
 | .reg false ops,s,k,_,hb,h=>by
  obtain ⟨s',h1,h2⟩:=evOps_heir hO ops s hb h
  exact ⟨_,s',h1,h2⟩
 | .reg true ops,s,k,_,hb,h=>by
  obtain ⟨s',h1,h2⟩:=evDraw_heir hO ops 0 s [] hb h
  exact ⟨_,s',h1,h2⟩
 | .seq a b,s,k,hg,hb,h=>by
  simp only [AC.nog,Bool.and_eq_true] at hg
  simp only [evC] at h
  obtain ⟨e,s',h1,h2⟩:=evC_heir hO a s _ hg.1 hb h
  cases e with
  |nrm=>
   obtain ⟨e,s2,g1,g2⟩:=evC_heir hO b s' _ hg.2 (h2.hb hb) h1
   exact ⟨e,s2,g1,h2.trans g2⟩
  |ex id=>exact ⟨_,s',h1,h2⟩
  |ret=>exact ⟨_,s',h1,h2⟩
 | .ite c a b,s,k,hg,hb,h=>by
  simp only [AC.nog,Bool.and_eq_true] at hg
  simp only [evC] at h
  split at h
  ·exact evC_heir hO a s k hg.1 hb h
  ·exact evC_heir hO b s k hg.2 hb h
  ·cases h
 | .blk id a,s,k,hg,hb,h=>by
  simp only [AC.nog] at hg
  simp only [evC] at h
  obtain ⟨e,s',h1,h2⟩:=evC_heir hO a s _ hg hb h
  cases e with
  |nrm=>exact ⟨_,s',h1,h2⟩
  |ex j=>
   simp only at h1
   cases q:Nat.beq j id with
   |true=>rw [q] at h1;exact ⟨_,s',h1,h2⟩
   |false=>rw [q] at h1;exact ⟨_,s',h1,h2⟩
  |ret=>exact ⟨_,s',h1,h2⟩
 | .loop a,s,k,hg,hb,h=>by
  simp only [AC.nog] at hg
  simp only [evC] at h
  exact evLoop_heir (fun s k hb h=>evC_heir hO a s k hg hb h) F s hb h
 | .exit id,s,k,_,_,h=>⟨.ex id,s,h,Heir.refl _ _⟩
 | .cutg _ _ _ _,_,_,hg,_,_=>by simp [AC.nog] at hg
 | .regm m ds kd kvs,s,k,_,_,h=>⟨.nrm,_,h,Heir.refl _ _⟩
 | .cut ts ls a,s,k,hg,hb,h=>by
  simp only [AC.nog] at hg
  simp only [evC] at h
  split at h
  ·rename_i s' hs
   obtain ⟨q1,q2,_⟩:=keep_same hs
   obtain ⟨e,s2,g1,g2⟩:=evC_heir hO a s' k hg (by rw [q1,q2];exact hb) h
   exact ⟨e,s2,g1,by rw [q1,q2] at g2;exact g2⟩
  ·cases h
theorem evFn_heir (hO:OHeir O){F:Nat}{f:AFn}{args:List AV}{h h':AHeap}{n n':Nat}{v:AV}(hg:f.body.nog=true)(hb:HB h n)(he:evFn O fl F f args h n=some (v,h',n')):Heir h n h' n':=by
 unfold evFn at he
 cases q:Nat.beq args.length f.nargs with
 |false=>simp [q] at he
 |true=>
  rw [q,cond_true] at he
  obtain ⟨e,s',h1,h2⟩:=evC_heir hO f.body ⟨argsFr 0 args,[],h,n,n⟩ _ hg hb he
  have:outOf f.res s'=some (v,h',n'):=by
   cases e<;>first|exact h1|cases h1
  unfold outOf at this
  split at this<;>first|(simp only [Option.some.injEq,Prod.mk.injEq] at this;obtain ⟨_,rfl,rfl⟩:=this;exact h2)|cases this
end
structure Good (P:Program) (C:Cx) (θ0:Th) (n0 nf:Nat) (s:AS) (a:Act) (w:World):Prop where
 ex:∃ θ σ,Rep P C θ σ s.fs a w∧Th.ext θ0 θ n0 s.n∧Free θ s.n nf
 hb:HB s.h s.n
 le:n0≤s.n
theorem Th.ext_trans {a b c:Th}{x y z:Nat}(h:Th.ext a b x y)(k:Th.ext b c y z)(h1:x≤y)(h2:y≤z):Th.ext a c x z:=⟨fun id=>(by
 rcases k.pl id with q|⟨q1,q2,q3⟩
 ·rcases h.pl id with p|⟨p1,p2,p3⟩
  ·exact .inl (q.trans p)
  ·exact .inr ⟨p1,p2,by omega⟩
 ·refine .inr ⟨?_,by omega,q3⟩
  rcases h.pl id with p|⟨p1,p2,p3⟩
  ·rw [← p];exact q1
  ·exact p1),Th.fle_trans h.fz k.fz⟩
theorem Good.step {P:Program}{C:Cx}{θ0 θ θ':Th}{σ':Nat→Option Nat}{n0 nf:Nat}{s s':AS}{a':Act}{w':World}(he:Th.ext θ0 θ n0 s.n)(hf:Free θ s.n nf)(hl:n0≤s.n)(hx:Th.ext θ θ' s.n s'.n)(hn:s.n≤s'.n)
  (hb:HB s'.h s'.n) (R:Rep P C θ' σ' s'.fs a' w'):Good P C θ0 n0 nf s' a' w':=
 ⟨⟨θ',σ',R,Th.ext_trans he hx hl hn,fun id h1 h2=>by
  rcases hx.pl id with q|⟨_,_,q⟩
  ·rw [q];exact hf id (by omega) h2
  ·omega⟩,hb,Nat.le_trans hl hn⟩
def dstEq:Option Nat→Option Nat→Nat→Bool
 |none,none,_=>true
 |some a,some b,N=>Nat.beq a b&&Nat.blt a N
 |_,_,_=>false
theorem dstEq_of {x y:Option Nat}{N:Nat}(h:dstEq x y N=true):x=y∧∀ t,x=some t→t<N:=by
 unfold dstEq at h
 split at h
 ·exact ⟨rfl,fun t e=>by cases e⟩
 ·simp only [Bool.and_eq_true] at h
  have q:=beq_true.1 h.1;subst q
  refine ⟨rfl,fun t e=>?_⟩
  cases e
  have:=h.2
  rwa [Nat.blt_eq] at this
 ·cases h
def okGuard (ops:List Oper)(N:Nat):Option (Nat×Bool)→Option (Nat×Bool)→Bool
 |none,none=>true
 |some (j,w),some (t,w')=>(w==w')&&Nat.blt t N&&(match ops[j]? with|some o=>(match o.dst with|some d=>Nat.beq d t|none=>false)|none=>false)
 |_,_=>false
theorem guard_of {ops:List Oper}{N:Nat}{j t:Nat}{w w' b:Bool}{a:Act}{θ:Th}{σ:Nat→Option Nat}(ok:okGuard ops N (some (j,w)) (some (t,w'))=true)(hs:a.tmps.size=N)(hv:TRel θ σ (.b b) (a.tmps.getD t undef)) :
  w'=w∧yielded ops.toArray a.tmps j=some b:=by
 simp only [okGuard,Bool.and_eq_true] at ok
 obtain ⟨⟨o1,o2⟩,o3⟩:=ok
 have o1:w=w':=by simpa using o1
 rw [Nat.blt_eq] at o2
 refine ⟨o1.symm,?_⟩
 split at o3
 ·rename_i o ho
  split at o3
  ·rename_i d hd
   have o3:=beq_true.1 o3;subst o3
   have hv:a.tmps.getD d undef=.bool b:=by simpa [TRel,VRel] using hv
   have hlt:d<a.tmps.size:=by rw [hs];exact o2
   have hg:a.tmps[d]? = some (.bool b):=by
    rw [Array.getD_eq_getD_getElem?,Array.getElem?_eq_getElem hlt] at hv
    rw [Array.getElem?_eq_getElem hlt]
    simpa using hv
   unfold yielded
   simp [ho,hd,hg]
  ·cases o3
 ·cases o3
theorem guard_undef {ops:List Oper}{N:Nat}{j t:Nat}{w w':Bool}{a:Act}{θ:Th}{σ:Nat→Option Nat}(ok:okGuard ops N (some (j,w)) (some (t,w'))=true)(hs:a.tmps.size=N)(hv:TRel θ σ (.tup []) (a.tmps.getD t undef)) :
  yielded ops.toArray a.tmps j=none:=by
 simp only [okGuard,Bool.and_eq_true] at ok
 obtain ⟨⟨o1,o2⟩,o3⟩:=ok
 rw [Nat.blt_eq] at o2
 split at o3
 ·rename_i o ho
  split at o3
  ·rename_i d hd
   have o3:=beq_true.1 o3;subst o3
   have hv:a.tmps.getD d undef=.tuple #[]:=by
    simp only [TRel,VRel,VRels] at hv
    obtain ⟨ds,e,h⟩:=hv
    obtain ⟨l⟩:=ds
    simp at h;rw [e,h]
   have hlt:d<a.tmps.size:=by rw [hs];exact o2
   have hg:a.tmps[d]? = some (.tuple #[]):=by
    rw [Array.getD_eq_getD_getElem?,Array.getElem?_eq_getElem hlt] at hv
    rw [Array.getElem?_eq_getElem hlt]
    simpa using hv
   unfold yielded
   simp [ho,hd,hg]
  ·cases o3
 ·cases o3
def okOper (P:Program)(ng N:Nat)(ops:List Oper)(o:Oper)(ao:AOper):Bool:=dstEq o.dst ao.dst N&&okGuard ops N o.guard ao.guard&&okOp P ng o.op ao.op
def okOps (P:Program)(ng N:Nat)(ops:List Oper):List Oper→List AOper→Bool
 | [],[]=>true
 |o::l,ao::al=>okOper P ng N ops o ao&&okOps P ng N ops l al
 |_,_=>false
theorem evOps_sound {P:Program}{C:Cx}{O:Orc}{θ0:Th}{n0 nf:Nat}{r:Res}{ops:List Oper}{Q:Exit→Act→World→Prop}{k:AS→Option Res}(hO:OSound P C.ng O)
  (hn:∀ s',HB s'.h s'.n→k s'=some r→s'.n≤nf) (hk:∀ s' a' w',k s'=some r→Good P C θ0 n0 nf s' a' w'→Q .normal a' w') :
  ∀ (l:List Oper) (al:List AOper) (s:AS) (a:Act) (w:World),okOps P C.ng C.N ops l al=true→Good P C θ0 n0 nf s a w→evOps O C.fl al s k=some r→wpList P ops.toArray Q l a w
 | [],[],s,a,w,_,g,h=>hk s a w h g
 |o::l,ao::al,s,a,w,ok,g,h=>by
  simp only [okOps,okOper,Bool.and_eq_true] at ok
  obtain ⟨⟨⟨ok1,ok2⟩,ok3⟩,ok4⟩:=ok
  obtain ⟨hd,hdN⟩:=dstEq_of ok1
  obtain ⟨⟨θ,σ,R,hx,hf⟩,hb,hle⟩:=g
  have run:evOp O C.fl ao.dst ao.op s (fun e _=>evOps O C.fl al (s.put ao.dst e) k)=some r→∀ K:Act→World→Prop,(∀ a w,wpList P ops.toArray Q l a w→K a w)→o.wp P a w K Q:=fun h K hK=>by
   rw [← hd] at h
   obtain ⟨e,f,h1,h2,h3,h4⟩:=op_all hO hb ok3 h
   have hp:=h2.put o.dst
   have hen:(s.put o.dst e).n=e.n:=rfl
   have hle':e.n≤nf:=by
    obtain ⟨s',g1,g2⟩:=evOps_heir hO.heir al _ (hp.hb hb) h1
    have:=hn s' (g2.hb (hp.hb hb)) g1
    have:=g2.1
    omega
   refine h4 s.fs θ σ a w R hdN (fun _ _=>rfl) (fun _ _=>rfl) ⟨fun _ _=>rfl,fun _ _ _ e=>e⟩ (fun id q1 q2=>hf id q1 (by omega)) K Q fun θ' σ' a' w' q1 q2=>hK a' w' ?_
   rw [← fs_put] at q2
   exact evOps_sound hO hn hk l al _ a' w' ok4 (Good.step hx hf hle q1 h3 (hp.hb hb) q2) h1
  have skip:evOps O C.fl al (s.undef ao.dst) k=some r→wpList P ops.toArray Q l (a.put o.dst undef) w:=fun h=>by
   rw [← hd] at h
   refine evOps_sound hO hn hk l al _ _ w ok4 (Good.step (σ':=σ) (s:=s) (s':=s.undef o.dst) hx hf hle (Th.ext_refl _ _ _) (Nat.le_refl _) hb ?_) h
   rw [undef_put,fs_put]
   exact ⟨R.m.same (by funext q;simp [FS.put,lget_nil,lget_cns]) (by funext q;simp [FS.put,hlook_nl,hlook_cns]) (Chg.refl _ _),R.t.step (Th.le_refl _) (fun _ _=>rfl) hdN (fun _ e=>undef_rel e) (fun _ _ e=>by cases e)⟩
  simp only [evOps] at h
  refine wpList_step fun K hK=>?_
  cases hg:ao.guard with
  |none=>
   rw [hg] at h ok2
   cases hg':o.guard with
   |some p=>rw [hg'] at ok2;obtain ⟨_,_⟩:=p;simp [okGuard] at ok2
   |none=>
    simp only [Region.wanted,hg',if_true]
    exact run h K hK
  |some p=>
   obtain ⟨t,w'⟩:=p
   rw [hg] at h ok2
   cases hg':o.guard with
   |none=>rw [hg'] at ok2;simp [okGuard] at ok2
   |some p=>
    obtain ⟨j,w2⟩:=p
    rw [hg'] at ok2
    simp only [Region.wanted,hg']
    simp only at h
    split at h
    ·rename_i hv
     obtain ⟨e1,e2⟩:=guard_of ok2 R.t.size (R.t.tmp t _ hv)
     subst e1
     rw [e2]
     cases w' with
     |true=>simp only [beq_self_eq_true,if_true];exact run h K hK
     |false=>simpa using hK _ _ (skip h)
    ·rename_i hv
     obtain ⟨e1,e2⟩:=guard_of ok2 R.t.size (R.t.tmp t _ hv)
     subst e1
     rw [e2]
     cases w' with
     |true=>simpa using hK _ _ (skip h)
     |false=>simp only [beq_self_eq_true,if_true];exact run h K hK
    ·rename_i hv
     have e2:=guard_undef ok2 R.t.size (R.t.tmp t _ hv)
     rw [e2]
     simpa using hK _ _ (skip h)
    ·cases h
 | [],_::_,_,_,_,ok,_,_=>by simp [okOps] at ok
 |_::_,[],_,_,_,ok,_,_=>by simp [okOps] at ok
end Go.Proofs.YtchgkmdonhdfeaaGreatDoor.Ab
/- Regions that draw their order: whatever the order, the same facts. No condition: lemmas only. -/
set_option linter.unusedVariables false
set_option linter.unusedSimpArgs false
namespace Go.Proofs.YtchgkmdonhdfeaaGreatDoor.Ab
open Go
def upds {β:Type}(upd:Nat→Option β)(L:Nat→Bool)(x0:β):Nat→β
 |0=>x0
 |m+1=>if L m=true then (upd m).getD (upds upd L x0 m) else upds upd L x0 m
section
variable {β:Type}{upd:Nat→Option β}{L:Nat→Bool}{x0:β}
theorem upds_late {m:Nat}:∀ {n:Nat},m≤n→(∀ j,m≤j→j<n→L j=true→upd j=none)→upds upd L x0 n=upds upd L x0 m
 |0,h,_=>by
   have:m=0:=by omega
   rw [this]
 |n+1,h,k=>by
  rcases Nat.lt_or_ge n m with q|q
  ·have:m=n+1:=by omega
   rw [this]
  ·simp only [upds]
   have ih:=upds_late (n:=n) q (fun j h1 h2=>k j h1 (by omega))
   split
   ·rename_i hl;rw [k n q (by omega) hl];simpa using ih
   ·exact ih
theorem upds_early:∀ {i:Nat},(∀ j,j<i→L j=false→upd j=none)→upds upd L x0 i=upds upd (fun _=>true) x0 i
 |0,_=>rfl
 |i+1,k=>by
  have ih:=upds_early (i:=i) (fun j h=>k j (by omega))
  simp only [upds,if_true,ih]
  split
  ·rfl
  ·rename_i hl
   rw [k i (by omega) (by simpa using hl)];rfl
def ins (L:Nat→Bool)(i:Nat)(j:Nat):Bool:=if j=i then true else L j
theorem upds_below {L':Nat→Bool}:∀ {i:Nat},(∀ j,j<i→L j=L' j)→upds upd L x0 i=upds upd L' x0 i
 |0,_=>rfl
 |i+1,k=>by
  have ih:=upds_below (i:=i) (fun j h=>k j (by omega))
  simp only [upds,ih,k i (by omega)]
theorem upds_insert {i:Nat}(hl:L i=false):∀ {n:Nat},i<n→(∀ j,i<j→j<n→L j=true→upd j=none∨upd i=none)→upds upd (ins L i) x0 n=(upd i).getD (upds upd L x0 n)
 |0,h,_=>by omega
 |n+1,h,k=>by
  by_cases q:n=i
  ·subst q
   simp only [upds,ins,if_true,hl,Bool.false_eq_true,if_false]
   congr 1
   exact upds_below fun j hj=>by simp [ins,Nat.ne_of_lt hj]
  ·have ih:=upds_insert (i:=i) hl (n:=n) (by omega) (fun j h1 h2=>k j h1 (by omega))
   have e:ins L i n=L n:=by simp [ins,q]
   simp only [upds,e]
   split
   ·rename_i hln
    rw [ih]
    rcases k n (by omega) (by omega) hln with z|z
    ·rw [z];rfl
    ·rw [z];rfl
   ·exact ih
end
def updT (xs:List Rec)(t:Nat)(j:Nat):Option (Option AV):=match xs[j]? with
 |some x=>if x.dst=some t then some x.eff.val else none
 |none=>none
noncomputable def updL (xs:List Rec) (s:Nat) (j:Nat):Option (Option (List AV)):=match xs[j]? with
 |some x=>(lget x.eff.loc s).map some
 |none=>none
noncomputable def updH (xs:List Rec) (id:Nat) (j:Nat):Option (Option ABlk):=match xs[j]? with
 |some x=>(match x.eff.all with
  |some h=>some (hget h id)
  |none=>hlook x.eff.hp id)
 |none=>none
noncomputable def FL (F:FS) (xs:List Rec) (L:Nat→Bool) (n:Nat):FS:=⟨fun t=>upds (updT xs t) L (F.tmp t) n,fun s=>upds (updL xs s) L (F.loc s) n,fun id=>upds (updH xs id) L (F.hp id) n⟩
theorem put_none {F:FS}{d:Option Nat}{e:Eff}:F.put d e=⟨fun t=>(if d=some t then some e.val else none:Option (Option AV)).getD (F.tmp t),fun s=>((lget e.loc s).map some).getD (F.loc s),fun id=>(match e.all with|some h=>some (hget h id)|none=>hlook e.hp id:Option (Option ABlk)).getD (F.hp id)⟩:=by
 unfold FS.put
 congr 1
 ·funext t;split<;>rfl
 ·funext s;cases lget e.loc s<;>rfl
 ·funext id
  cases e.all with
  |some h=>rfl
  |none=>simp only;cases hlook e.hp id<;>rfl
noncomputable def puts (s:AS):List Rec→AS
 | []=>s
 |x::xs=>puts (s.put x.dst x.eff) xs
theorem puts_append (s:AS)(a b:List Rec):puts s (a++b)=puts (puts s a) b:=by
 induction a generalizing s with
 |nil=>rfl
 |cons x a ih=>simp only [List.cons_append,puts];exact ih _
theorem puts_take_succ {s:AS}{xs:List Rec}{i:Nat}{x:Rec}(h:xs[i]? = some x):puts s (xs.take (i+1))=(puts s (xs.take i)).put x.dst x.eff:=by
 have hlt:=(List.getElem?_eq_some_iff.1 h).1
 rw [List.take_succ_eq_append_getElem hlt,puts_append,(List.getElem?_eq_some_iff.1 h).2]
 rfl
theorem FL_all {s:AS}{xs:List Rec}:∀ i,i≤xs.length→(puts s (xs.take i)).fs=FL s.fs xs (fun _=>true) i
 |0,_=>by simp [puts,FL,upds]
 |i+1,h=>by
  have hlt:i<xs.length:=by omega
  have hx:xs[i]? = some xs[i]:=List.getElem?_eq_getElem hlt
  rw [puts_take_succ hx,fs_put,FL_all i (by omega),put_none]
  unfold FL
  congr 1
  ·funext t;simp only [upds,updT,hx,if_true]
  ·funext t;simp only [upds,updL,hx,if_true]
  ·funext t;simp only [upds,updH,hx,if_true]
theorem lget_mem {l:List (Nat×List AV)}{t:Nat}(h:lget l t≠none):t∈l.map (·.1):=by
 induction l with
 |nil=>simp [lget_nil,lget_cns] at h
 |cons p r ih=>
  obtain ⟨k,x⟩:=p
  rw [lget_cons] at h
  simp only [List.map_cons,List.mem_cons]
  by_cases e:k=t
  ·exact .inl e.symm
  ·rw [if_neg e] at h;exact .inr (ih h)
theorem hlook_mem {l:List (Nat×Option ABlk)}{t:Nat}(h:hlook l t≠none):t∈l.map (·.1):=by
 induction l with
 |nil=>simp [hlook_nl,hlook_cns] at h
 |cons p r ih=>
  obtain ⟨k,x⟩:=p
  simp only [hlook_nl,hlook_cns] at h
  simp only [List.map_cons,List.mem_cons]
  by_cases e:k=t
  ·exact .inl e.symm
  ·rw [beq_false.2 e] at h;exact .inr (ih h)
structure Pair (li lj:List Nat) (xi xj:Rec):Prop where
 t1:∀ d,xj.dst=some d→d∉li∧xi.dst≠some d
 t2:∀ d,xi.dst=some d→d∉lj
 l1:∀ s,s∈xj.wl→s∉xi.foot.locs∧s∉xi.wl
 l2:∀ s,s∈xi.wl→s∉xj.foot.locs
 h1:∀ id,id∈xj.wh→id∉xi.foot.hps∧id∉xi.wh
 h2:∀ id,id∈xi.wh→id∉xj.foot.hps
 m1:∀ n hid,xi.foot.lim=some (n,hid)→∀ id,id∈xj.wh→id∈hid
 m2:∀ n hid,xj.foot.lim=some (n,hid)→∀ id,id∈xi.wh→id<n→id∈hid
def AgD (F Fi:FS)(look:List Nat)(f:Foot):Prop:=
 (∀ t,t∈look→F.tmp t=Fi.tmp t)∧(∀ s,s∈f.locs→F.loc s=Fi.loc s)∧(∀ id,id∈f.hps→F.hp id=Fi.hp id)∧
  ∀ n hid,f.lim=some (n,hid)→∀ id x,id∉hid→Fi.hp id=some x→F.hp id=some x
def StepAt (P:Program)(C:Cx)(ops:Array Oper)(Q:Exit→Act→World→Prop)(i:Nat)(x:Rec)(look:List Nat)(nlo:Nat)(Fi:FS):Prop:=
 ∀ (F:FS) (θ:Th) (σ:Nat→Option Nat) (a:Act) (w:World),Rep P C θ σ F a w→AgD F Fi look x.foot→Free θ nlo x.eff.n→∀ K:Act→World→Prop,
  (∀ θ' σ' a' w',Th.ext θ θ' nlo x.eff.n→Rep P C θ' σ' (F.put x.dst x.eff) a' w'→K a' w')→wpOp P ops Q i K a w
structure Drawn (P:Program) (C:Cx) (ops:Array Oper) (Q:Exit→Act→World→Prop) (s0:AS) (xs:List Rec) (lk:Nat→List Nat) (bef:Nat→Nat→Bool):Prop where
 len:xs.length=ops.size
 all:∀ (i:Nat) (x:Rec),xs[i]? = some x→x.eff.all=none∨(i+1=xs.length∧∀ j,j<i→bef i j=true)
 num:∀ (i:Nat) (x:Rec),xs[i]? = some x→(puts s0 (xs.take i)).n≤x.eff.n
 step:∀ (i:Nat) (x:Rec),xs[i]? = some x→StepAt P C ops Q i x (lk i) (puts s0 (xs.take i)).n (puts s0 (xs.take i)).fs
 low:∀ (i:Nat) (x:Rec),xs[i]? = some x→HB (puts s0 (xs.take i)).h (puts s0 (xs.take i)).n
 lim:∀ (i:Nat) (x:Rec) (n:Nat) (hid:List Nat),xs[i]? = some x→x.foot.lim=some (n,hid)→n=(puts s0 (xs.take i)).n
 pair:∀ (i j:Nat) (xi xj:Rec),j<i→xs[i]? = some xi→xs[j]? = some xj→bef i j=true∨Pair (lk i) (lk j) xi xj
 bind:∀ (i j:Nat),bef i j=true→∃ o,ops[i]? = some o∧∃ e∈o.after,Region.binds .any e=true∧(e.on=j∨bef e.on j=true)
 back:∀ (i:Nat) (o:Oper),ops[i]? = some o→∀ e∈o.after,Region.binds .any e=true→e.on<i
def unl (listed:Array Bool):Nat→Nat
 |0=>0
 |m+1=>unl listed m+(if listed.getD m false=true then 0 else 1)
theorem getD_ins {listed:Array Bool}{i:Nat}(hi:i<listed.size)(j:Nat):(listed.setIfInBounds i true).getD j false=ins (fun j=>listed.getD j false) i j:=by
 unfold ins
 by_cases e:j=i
 ·subst e;rw [if_pos rfl];simp [hi]
 ·rw [if_neg e,getD_set_ne false (Ne.symm e)]
theorem unl_set {listed:Array Bool}{i:Nat}(hi:i<listed.size)(hl:listed.getD i false=false):∀ m,(i<m→unl (listed.setIfInBounds i true) m+1=unl listed m)∧(m≤i→unl (listed.setIfInBounds i true) m=unl listed m)
 |0=>⟨fun h=>by omega,fun _=>rfl⟩
 |m+1=>by
  obtain ⟨h1,h2⟩:=unl_set hi hl m
  simp only [unl,getD_ins hi]
  refine ⟨fun h=>?_,fun h=>?_⟩
  ·by_cases e:m=i
   ·subst e
    have:=h2 (Nat.le_refl _)
    simp only [ins,if_true,hl,Bool.false_eq_true,if_false]
    omega
   ·have:=h1 (by omega)
    have e2:ins (fun j=>listed.getD j false) i m=listed.getD m false:=by simp [ins,e]
    rw [e2];omega
  ·have:=h2 (by omega)
   have e2:ins (fun j=>listed.getD j false) i m=listed.getD m false:=by simp [ins,show ¬ m=i by omega]
   rw [e2];omega
theorem unl_none {listed:Array Bool}:∀ m,unl listed m=0→∀ j,j<m→listed.getD j false=true
 |0,_,j,h=>by omega
 |m+1,h,j,hj=>by
  simp only [unl] at h
  by_cases e:j=m
  ·subst e
   split at h
   ·assumption
   ·omega
  ·exact unl_none m (by omega) j (by omega)
section
variable {P:Program}{C:Cx}{ops:Array Oper}{Q:Exit→Act→World→Prop}{s0:AS}{xs:List Rec}{lk:Nat→List Nat}{bef:Nat→Nat→Bool}
noncomputable def nn (s0:AS) (xs:List Rec) (i:Nat):Nat:=(puts s0 (xs.take i)).n
theorem Drawn.nn_le (D:Drawn P C ops Q s0 xs lk bef){i:Nat}:∀ {j:Nat},i≤j→j≤xs.length→nn s0 xs i≤nn s0 xs j
 |0,h,_=>by
   have:i=0:=by omega
   rw [this];exact Nat.le_refl _
 |j+1,h,hl=>by
  by_cases e:i=j+1
  ·rw [e];exact Nat.le_refl _
  ·have ih:=D.nn_le (i:=i) (j:=j) (by omega) (by omega)
   have hx:xs[j]? = some xs[j]:=List.getElem?_eq_getElem (by omega)
   have h1:=D.num j _ hx
   have:nn s0 xs (j+1)=xs[j].eff.n:=by unfold nn;rw [puts_take_succ hx];rfl
   unfold nn at *;omega
def Closed (ops:Array Oper)(L:Nat→Bool):Prop:=∀ (i:Nat) (o:Oper),ops[i]? = some o→L i=true→∀ e∈o.after,Region.binds .any e=true→L e.on=true
theorem Drawn.before (D:Drawn P C ops Q s0 xs lk bef){L:Nat→Bool}(hc:Closed ops L):∀ (i:Nat) (j:Nat),(∀ o,ops[i]? = some o→∀ e∈o.after,Region.binds .any e=true→L e.on=true)→bef i j=true→L j=true:=by
 intro i
 induction i using Nat.strongRecOn with
 |_ i ih=>
  intro j h hb
  obtain ⟨o,ho,e,he,hbd,hj⟩:=D.bind i j hb
  have hl:=h o ho e he hbd
  rcases hj with hj|hj
  ·rw [← hj];exact hl
  ·exact ih e.on (D.back i o ho e he hbd) j (fun o' ho'=>hc e.on o' ho' hl) hj
theorem Drawn.agree (D:Drawn P C ops Q s0 xs lk bef){L:Nat→Bool}(hc:Closed ops L){i:Nat}{x:Rec}{o:Oper}(hx:xs[i]? = some x)(ho:ops[i]? = some o)(hl:L i=false)
  (hr:∀ e∈o.after,Region.binds .any e=true→L e.on=true):AgD (FL s0.fs xs L xs.length) (puts s0 (xs.take i)).fs (lk i) x.foot:=by
 have hlt:=(List.getElem?_eq_some_iff.1 hx).1
 have late:∀ (j:Nat) (xj:Rec),i≤j→L j=true→xs[j]? = some xj→Pair (lk j) (lk i) xj x:=fun j xj h1 h2 h3=>by
  have hne:j≠i:=fun e=>by subst e;rw [hl] at h2;cases h2
  rcases D.pair j i xj x (by omega) h3 hx with q|q
  ·have hj:j<ops.size:=by rw [← D.len];exact (List.getElem?_eq_some_iff.1 h3).1
   have:=D.before hc j i (fun o' ho'=>hc j o' ho' h2) q
   rw [hl] at this;cases this
  ·exact q
 have early:∀ (j:Nat) (xj:Rec),j<i→L j=false→xs[j]? = some xj→Pair (lk i) (lk j) x xj:=fun j xj h1 h2 h3=>by
  rcases D.pair i j x xj h1 hx h3 with q|q
  ·have:=D.before hc i j (fun o' ho'=>by rw [ho] at ho';cases ho';exact hr) q
   rw [h2] at this;cases this
  ·exact q
 have earlyA:∀ (j:Nat) (xj:Rec),j<i→xs[j]? = some xj→xj.eff.all=none:=fun j xj h1 h3=>by
  rcases D.all j xj h3 with q|⟨q,_⟩
  ·exact q
  ·omega
 have lateA:∀ (j:Nat) (xj:Rec),i≤j→L j=true→xs[j]? = some xj→xj.eff.all=none:=fun j xj h1 h2 h3=>by
  have hne:j≠i:=fun e=>by subst e;rw [hl] at h2;cases h2
  rcases D.all j xj h3 with q|⟨_,q⟩
  ·exact q
  ·have:=D.before hc j i (fun o' ho'=>hc j o' ho' h2) (q i (by omega))
   rw [hl] at this;cases this
 rw [FL_all i (by omega)]
 refine ⟨fun t ht=>?_,fun t ht=>?_,fun t ht=>?_,fun n hid hlim id y hn hy=>?_⟩
 ·show upds _ _ _ _=upds _ _ _ _
  rw [upds_late (m:=i) (by omega),upds_early]
  ·intro j h1 h2
   unfold updT
   split
   ·rename_i xj hxj
    rw [if_neg]
    intro e;exact ((early j xj h1 h2 hxj).t1 t e).1 ht
   ·rfl
  ·intro j h1 h2 h3
   unfold updT
   split
   ·rename_i xj hxj
    rw [if_neg]
    intro e;exact (late j xj h1 h3 hxj).t2 t e ht
   ·rfl
 ·show upds _ _ _ _=upds _ _ _ _
  rw [upds_late (m:=i) (by omega),upds_early]
  ·intro j h1 h2
   unfold updL
   split
   ·rename_i xj hxj
    cases q:lget xj.eff.loc t with
    |none=>rfl
    |some v=>exact absurd ht ((early j xj h1 h2 hxj).l1 t (lget_mem (by rw [q];simp))).1
   ·rfl
  ·intro j h1 h2 h3
   unfold updL
   split
   ·rename_i xj hxj
    cases q:lget xj.eff.loc t with
    |none=>rfl
    |some v=>exact absurd ht ((late j xj h1 h3 hxj).l2 t (lget_mem (by rw [q];simp)))
   ·rfl
 ·show upds _ _ _ _=upds _ _ _ _
  rw [upds_late (m:=i) (by omega),upds_early]
  ·intro j h1 h2
   unfold updH
   split
   ·rename_i xj hxj
    rw [earlyA j xj h1 hxj]
    cases q:hlook xj.eff.hp t with
    |none=>rfl
    |some v=>exact absurd ht ((early j xj h1 h2 hxj).h1 t (hlook_mem (by rw [q];simp))).1
   ·rfl
  ·intro j h1 h2 h3
   unfold updH
   split
   ·rename_i xj hxj
    rw [lateA j xj h1 h3 hxj]
    cases q:hlook xj.eff.hp t with
    |none=>rfl
    |some v=>exact absurd ht ((late j xj h1 h3 hxj).h2 t (hlook_mem (by rw [q];simp)))
   ·rfl
 ·have hid':id<n:=by
   rw [D.lim i x n hid hx hlim]
   rw [← FL_all i (by omega)] at hy
   exact D.low i x hx id y hy
  rw [← hy]
  show upds _ _ _ _=upds _ _ _ _
  rw [upds_late (m:=i) (by omega),upds_early]
  ·intro j h1 h2
   unfold updH
   split
   ·rename_i xj hxj
    rw [earlyA j xj h1 hxj]
    cases q:hlook xj.eff.hp id with
    |none=>rfl
    |some v=>exact absurd ((early j xj h1 h2 hxj).m1 n hid hlim id (hlook_mem (by rw [q];simp))) hn
   ·rfl
  ·intro j h1 h2 h3
   unfold updH
   split
   ·rename_i xj hxj
    rw [lateA j xj h1 h3 hxj]
    cases q:hlook xj.eff.hp id with
    |none=>rfl
    |some v=>exact absurd ((late j xj h1 h3 hxj).m2 n hid hlim id (hlook_mem (by rw [q];simp)) hid') hn
   ·rfl
theorem Drawn.insert (D:Drawn P C ops Q s0 xs lk bef){L:Nat→Bool}(hc:Closed ops L){i:Nat}{x:Rec}(hx:xs[i]? = some x)(hl:L i=false) :
  (FL s0.fs xs L xs.length).put x.dst x.eff=FL s0.fs xs (ins L i) xs.length:=by
 have hlt:=(List.getElem?_eq_some_iff.1 hx).1
 have late:∀ (j:Nat) (xj:Rec),i<j→L j=true→xs[j]? = some xj→Pair (lk j) (lk i) xj x:=fun j xj h1 h2 h3=>by
  rcases D.pair j i xj x h1 h3 hx with q|q
  ·have:=D.before hc j i (fun o' ho'=>hc j o' ho' h2) q
   rw [hl] at this;cases this
  ·exact q
 rw [put_none]
 unfold FL
 congr 1
 ·funext t
  rw [upds_insert hl hlt]
  ·simp only [updT,hx]
  ·intro j h1 h2 h3
   have hxj:xs[j]? = some xs[j]:=List.getElem?_eq_getElem h2
   simp only [updT,hx,hxj]
   by_cases e:x.dst=some t
   ·left;rw [if_neg];exact ((late j _ h1 h3 hxj).t1 t e).2
   ·right;rw [if_neg e]
 ·funext t
  rw [upds_insert hl hlt]
  ·simp only [updL,hx]
  ·intro j h1 h2 h3
   have hxj:xs[j]? = some xs[j]:=List.getElem?_eq_getElem h2
   simp only [updL,hx,hxj]
   cases q:lget xs[j].eff.loc t with
   |none=>exact .inl rfl
   |some v=>
    cases q':lget x.eff.loc t with
    |none=>exact .inr rfl
    |some v'=>exact absurd (lget_mem (by rw [q];simp)) ((late j _ h1 h3 hxj).l1 t (lget_mem (by rw [q'];simp))).2
 ·funext t
  rw [upds_insert hl hlt]
  ·simp only [updH,hx]
  ·intro j h1 h2 h3
   have hxj:xs[j]? = some xs[j]:=List.getElem?_eq_getElem h2
   have e1:xs[j].eff.all=none:=by
    rcases D.all j _ hxj with q|⟨_,q⟩
    ·exact q
    ·have:=D.before hc j i (fun o' ho'=>hc j o' ho' h3) (q i h1)
     rw [hl] at this;cases this
   have e2:x.eff.all=none:=by
    rcases D.all i x hx with q|⟨q,_⟩
    ·exact q
    ·omega
   simp only [updH,hx,hxj,e1,e2]
   cases q:hlook xs[j].eff.hp t with
   |none=>exact .inl rfl
   |some v=>
    cases q':hlook x.eff.hp t with
    |none=>exact .inr rfl
    |some v'=>exact absurd (hlook_mem (by rw [q];simp)) ((late j _ h1 h3 hxj).h1 t (hlook_mem (by rw [q'];simp))).2
def TR (s0:AS)(xs:List Rec)(L:Nat→Bool)(θ0 θ:Th):Prop:=(∀ id,θ id=θ0 id∨(θ0 id=none∧∃ j,j<xs.length∧L j=true∧nn s0 xs j≤id∧id<nn s0 xs (j+1)))∧Th.fle θ0 θ
theorem Drawn.sound (D:Drawn P C ops Q s0 xs lk bef){θ0:Th}{nf:Nat}(hf:Free θ0 (nn s0 xs 0) nf)(hnf:nn s0 xs xs.length≤nf)
  (hQ:∀ θ σ a w,Rep P C θ σ (puts s0 xs).fs a w→TR s0 xs (fun _=>true) θ0 θ→Q .normal a w) :
  ∀ (fuel:Nat) (listed:Array Bool) (a:Act) (w:World) (θ:Th) (σ:Nat→Option Nat),listed.size=ops.size→Closed ops (fun j=>listed.getD j false)→unl listed ops.size≤fuel→
   Rep P C θ σ (FL s0.fs xs (fun j=>listed.getD j false) xs.length) a w→TR s0 xs (fun j=>listed.getD j false) θ0 θ→wpAny P .any ops Q fuel listed a w:=by
 have fin:∀ (listed:Array Bool) (a:Act) (w:World) (θ:Th) (σ:Nat→Option Nat),(∀ j,j<ops.size→listed.getD j false=true)→
   Rep P C θ σ (FL s0.fs xs (fun j=>listed.getD j false) xs.length) a w→TR s0 xs (fun j=>listed.getD j false) θ0 θ→Q .normal a w:=by
  intro listed a w θ σ hall R ht
  refine hQ θ σ a w ?_ ⟨fun id=>?_,ht.2⟩
  ·have e:(puts s0 xs).fs=FL s0.fs xs (fun j=>listed.getD j false) xs.length:=by
    have:=FL_all (s:=s0) xs.length (Nat.le_refl _)
    rw [List.take_length] at this
    rw [this]
    unfold FL
    congr 1<;>funext t<;>exact upds_below fun j hj=>(hall j (by rw [← D.len];exact hj)).symm
   rw [e];exact R
  ·rcases ht.1 id with q|⟨q,j,h1,h2,h3⟩
   ·exact .inl q
   ·exact .inr ⟨q,j,h1,rfl,h3⟩
 intro fuel
 induction fuel with
 |zero=>
  intro listed a w θ σ hs hc hu R ht
  have hall:=unl_none (listed:=listed) ops.size (by omega)
  refine ⟨?_,fin listed a w θ σ hall R ht⟩
  unfold Region.ready
  rw [List.filter_eq_nil_iff]
  intro j hj
  rw [List.mem_range] at hj
  have h1:=hall j hj
  have:listed.getD j true=true:=by
   have hlt:j<listed.size:=by omega
   simp only [Array.getD_eq_getD_getElem?,Array.getElem?_eq_getElem hlt,Option.getD_some] at h1 ⊢
   exact h1
  rw [this];simp
 |succ fuel ih=>
  intro listed a w θ σ hs hc hu R ht
  refine ⟨fun hr=>?_,fun i hi=>?_⟩
  ·refine fin listed a w θ σ (fun j hj=>?_) R ht
   induction j using Nat.strongRecOn with
   |_ j ihj=>
    cases q:listed.getD j false with
    |true=>rfl
    |false=>
     have hlt:j<listed.size:=by omega
     have:j∈Region.ready .any ops listed:=by
      rw [mem_ready]
      refine ⟨by
       simp only [Array.getD_eq_getD_getElem?,Array.getElem?_eq_getElem hlt,Option.getD_some] at q ⊢
       exact q,ops[j],Array.getElem?_eq_getElem hj,fun e he hb=>?_⟩
      have:=D.back j _ (Array.getElem?_eq_getElem hj) e he hb
      exact ihj e.on this (by omega)
     rw [hr] at this;cases this
  ·rw [mem_ready] at hi
   obtain ⟨h0,o,ho,hr⟩:=hi
   have hlt:i<ops.size:=(Array.getElem?_eq_some_iff.1 ho).1
   have hlt':i<listed.size:=by omega
   have hlx:i<xs.length:=by rw [D.len];exact hlt
   have hl:listed.getD i false=false:=by
    simp only [Array.getD_eq_getD_getElem?,Array.getElem?_eq_getElem hlt',Option.getD_some] at h0 ⊢
    exact h0
   have hx:xs[i]? = some xs[i]:=List.getElem?_eq_getElem hlx
   have hnn:nn s0 xs (i+1)=xs[i].eff.n:=by unfold nn;rw [puts_take_succ hx];rfl
   have hag:=D.agree hc hx ho hl (fun e he hb=>hr e he hb)
   refine D.step i _ hx _ θ σ a w R hag (fun id h1 h2=>?_) _ fun θ' σ' a' w' hext R'=>?_
   ·have h1:nn s0 xs i≤id:=h1
    rcases ht.1 id with q|⟨q,j,hj,hlj,g1,g2⟩
    ·rw [q]
     refine hf id ?_ ?_
     ·have:=D.nn_le (i:=0) (j:=i) (by omega) (by omega);omega
     ·have:=D.nn_le (i:=i+1) (j:=xs.length) (by omega) (Nat.le_refl _);omega
    ·exfalso
     rcases Nat.lt_trichotomy i j with z|z|z
     ·have:=D.nn_le (i:=i+1) (j:=j) (by omega) (by omega);omega
     ·subst z;simp only [hl] at hlj;cases hlj
     ·have:=D.nn_le (i:=j+1) (j:=i) (by omega) (by omega);omega
   ·rw [D.insert hc hx hl] at R'
    have ei:(fun j=>(listed.setIfInBounds i true).getD j false)=ins (fun j=>listed.getD j false) i:=by funext j;exact getD_ins hlt' j
    refine ih _ a' w' θ' σ' (by simpa using hs) ?_ ?_ ?_ ?_
    ·rw [ei]
     intro i' o' ho' hl' e he hb
     unfold ins at hl' ⊢
     split
     ·rfl
     ·by_cases z:i'=i
      ·subst z;rw [ho] at ho';cases ho';exact hr e he hb
      ·rw [if_neg z] at hl';exact hc i' o' ho' hl' e he hb
    ·have:=(unl_set hlt' hl ops.size).1 hlt;omega
    ·rw [ei];exact R'
    ·rw [ei]
     refine ⟨fun id=>?_,Th.fle_trans ht.2 hext.fz⟩
     rcases hext.pl id with q|⟨q,g1,g2⟩
     ·rw [q]
      rcases ht.1 id with z|⟨z,j,h1,h2,h3⟩
      ·exact .inl z
      ·exact .inr ⟨z,j,h1,by simp only [ins];split<;>first|rfl|exact h2,h3⟩
     ·refine .inr ⟨?_,i,hlx,by simp [ins],g1,by omega⟩
      rcases ht.1 id with z|⟨z,_⟩
      ·rw [← z];exact q
      ·exact z
end
end Go.Proofs.YtchgkmdonhdfeaaGreatDoor.Ab
/- Regions that draw their order: from the evaluation to the facts. No condition: definitions and lemmas only. -/
set_option linter.unusedVariables false
set_option linter.unusedSimpArgs false
namespace Go.Proofs.YtchgkmdonhdfeaaGreatDoor.Ab
open Go
def AOper.look (ao:AOper):List Nat:=ao.op.rd++(match ao.guard with|some (t,_)=>[t]|none=>[])
def tmpsApart (a b:AOper):Bool:=
 (match b.dst with|some d=>!(a.look.elem d)&&(match a.dst with|some d'=>!(Nat.beq d d')|none=>true)|none=>true) &&
 (match a.dst with|some d=>!(b.look.elem d)|none=>true)
def okEar (a:AOper):List (Nat×AOper)→Bool
 | []=>true
 |p::r=>(a.bef.testBit p.1||tmpsApart a p.2)&&okEar a r
def okPairs:Nat→List AOper→List (Nat×AOper)→Bool
 |_,[],_=>true
 |i,a::r,ear=>okEar a ear&&okPairs (i+1) r ((i,a)::ear)
def befAt (al:List AOper)(i:Nat):Nat:=match al[i]? with|some a=>a.bef|none=>0
def befOf (al:List AOper):List Edge→Nat
 | []=>0
 |e::r=>bif Region.binds .any e then 2 ^ e.on ||| (befAt al e.on ||| befOf al r) else befOf al r
def okEdges (i:Nat):List Edge→Bool
 | []=>true
 |e::r=>(!Region.binds .any e||Nat.blt e.on i)&&okEdges i r
def okBefs (al:List AOper):Nat→List Oper→List AOper→Bool
 |_,[],[]=>true
 |i,o::l,a::r=>Nat.beq a.bef (befOf al o.after.toList)&&okEdges i o.after.toList&&okBefs al (i+1) l r
 |_,_,_=>false
def okDraw (ops:List Oper)(al:List AOper):Bool:=okBefs al 0 ops al&&okPairs 0 al []
theorem okEar_of {a:AOper}:∀ {l:List (Nat×AOper)},okEar a l=true→∀ p∈l,a.bef.testBit p.1=true∨tmpsApart a p.2=true
 | [],_,p,hp=>by cases hp
 |q::r,h,p,hp=>by
  simp only [okEar,Bool.and_eq_true,Bool.or_eq_true] at h
  cases hp with
  |head=>exact h.1
  |tail _ hm=>exact okEar_of h.2 p hm
theorem okPairs_of:∀ {l:List AOper}{i:Nat}{ear:List (Nat×AOper)},okPairs i l ear=true→
  (∀ (m:Nat) (a:AOper),l[m]? = some a→∀ p∈ear,a.bef.testBit p.1=true∨tmpsApart a p.2=true)∧
  (∀ (m m':Nat) (a b:AOper),m'<m→l[m]? = some a→l[m']? = some b→a.bef.testBit (i+m')=true∨tmpsApart a b=true)
 | [],i,ear,_=>⟨fun m a h=>by simp at h,fun m m' a b _ h=>by simp at h⟩
 |c::l,i,ear,h=>by
  simp only [okPairs,Bool.and_eq_true] at h
  obtain ⟨h1,h2⟩:=okPairs_of h.2
  refine ⟨fun m a hm p hp=>?_,fun m m' a b hlt hm hm'=>?_⟩
  ·cases m with
   |zero=>simp at hm;subst hm;exact okEar_of h.1 p hp
   |succ m=>simp at hm;exact h1 m a hm p (List.mem_cons_of_mem _ hp)
  ·cases m with
   |zero=>omega
   |succ m=>
    simp at hm
    cases m' with
    |zero=>simp at hm';subst hm';simpa using h1 m a hm (i,c) (List.mem_cons_self ..)
    |succ m'=>
     simp at hm'
     have:=h2 m m' a b (by omega) hm hm'
     rwa [show i+1+m'=i+(m'+1) by omega] at this
theorem befOf_of {al:List AOper}{j:Nat}:∀ {l:List Edge},(befOf al l).testBit j=true→∃ e∈l,Region.binds .any e=true∧(e.on=j∨(befAt al e.on).testBit j=true)
 | [],h=>by simp [befOf] at h
 |e::r,h=>by
  simp only [befOf] at h
  cases hb:Region.binds .any e with
  |false=>
   rw [hb,cond_false] at h
   obtain ⟨e',h1,h2⟩:=befOf_of h
   exact ⟨e',List.mem_cons_of_mem _ h1,h2⟩
  |true=>
   rw [hb,cond_true,Nat.testBit_or,Nat.testBit_or,Bool.or_eq_true,Bool.or_eq_true] at h
   rcases h with h|h|h
   ·rw [Nat.testBit_two_pow] at h
    exact ⟨e,List.mem_cons_self ..,hb,.inl (by simpa using h)⟩
   ·exact ⟨e,List.mem_cons_self ..,hb,.inr h⟩
   ·obtain ⟨e',h1,h2⟩:=befOf_of h
    exact ⟨e',List.mem_cons_of_mem _ h1,h2⟩
theorem okEdges_of {i:Nat}:∀ {l:List Edge},okEdges i l=true→∀ e∈l,Region.binds .any e=true→e.on<i
 | [],_,e,h,_=>by cases h
 |c::l,h,e,he,hb=>by
  simp only [okEdges,Bool.and_eq_true,Bool.or_eq_true] at h
  cases he with
  |head=>
   rcases h.1 with q|q
   ·rw [hb] at q;simp at q
   ·rwa [Nat.blt_eq] at q
  |tail _ hm=>exact okEdges_of h.2 e hm hb
theorem okBefs_of {al:List AOper}:∀ {l:List Oper}{i:Nat}{r:List AOper},okBefs al i l r=true→l.length=r.length∧∀ (m:Nat) (o:Oper) (a:AOper),l[m]? = some o→r[m]? = some a→
  a.bef=befOf al o.after.toList∧okEdges (i+m) o.after.toList=true
 | [],i,[],_=>⟨rfl,fun m o a h=>by simp at h⟩
 |o::l,i,a::r,h=>by
  simp only [okBefs,Bool.and_eq_true] at h
  obtain ⟨⟨h1,h2⟩,h3⟩:=h
  obtain ⟨g1,g2⟩:=okBefs_of h3
  refine ⟨by simp [g1],fun m o' a' ho ha=>?_⟩
  cases m with
  |zero=>simp at ho ha;subst ho;subst ha;exact ⟨beq_true.1 h1,h2⟩
  |succ m=>
   simp at ho ha
   have:=g2 m o' a' ho ha
   rwa [show i+1+m=i+(m+1) by omega] at this
 | [],_,_::_,h=>by simp [okBefs] at h
 |_::_,_,[],h=>by simp [okBefs] at h
theorem elem_false {l:List Nat}{x:Nat}(h:(!(l.elem x))=true):x∉l:=by
 intro hm
 have:l.elem x=true:=List.elem_eq_true_of_mem hm
 rw [this] at h;cases h
theorem meets_false {f:Foot}{wl wh:List Nat}(h:(!(f.meets wl wh))=true):(∀ s,s∈wl→s∉f.locs)∧(∀ id,id∈wh→id∉f.hps)∧∀ n hid,f.lim=some (n,hid)→∀ id,id∈wh→id<n→id∈hid:=by
 simp only [Foot.meets,Bool.not_eq_true',Bool.or_eq_false_iff,List.any_eq_false] at h
 obtain ⟨h1,h2⟩:=h
 refine ⟨fun s hs hm=>h1 s hs (List.elem_eq_true_of_mem hm),fun id hi hm=>h2 id hi (by rw [List.elem_eq_true_of_mem hm];rfl),fun n hid hl id hi hlt=>?_⟩
 have:=h2 id hi
 rw [hl] at this
 simp only [Bool.not_eq_true,Bool.or_eq_false_iff] at this
 have h3:=this.2
 have hb:Nat.blt id n=true:=by rw [Nat.blt_eq];exact hlt
 rw [hb] at h3
 have:hid.elem id=true:=by simpa using h3
 simpa using this
theorem any_false {a b:List Nat}(h:(!(a.any fun x=>b.elem x))=true):∀ s,s∈b→s∉a:=by
 simp only [Bool.not_eq_true',List.any_eq_false] at h
 exact fun s hs ha=>h s ha (List.elem_eq_true_of_mem hs)
theorem apartAll_of {bef:Nat}{x:Rec}:∀ {l:List Rec},apartAll bef x l=true→∀ y∈l,bef.testBit y.no=true∨x.apart y=true
 | [],_,y,hy=>by cases hy
 |z::l,h,y,hy=>by
  simp only [apartAll,Bool.and_eq_true,Bool.or_eq_true] at h
  cases hy with
  |head=>exact h.1
  |tail _ hm=>exact apartAll_of h.2 y hm
theorem hidden_of {bef:Nat}:∀ {l:List Rec}{y:Rec},y∈l→bef.testBit y.no=false→∀ id,id∈y.wh→id∈hidden bef l
 | [],y,hy,_,_,_=>by cases hy
 |z::l,y,hy,hb,id,hi=>by
  simp only [hidden]
  cases hy with
  |head=>rw [hb,cond_false];exact List.mem_append_left _ hi
  |tail _ hm=>
   have:=hidden_of hm hb id hi
   cases bef.testBit z.no
   ·exact List.mem_append_right _ this
   ·exact this
theorem hidden_mem {bef:Nat}:∀ {l:List Rec}{id:Nat},id∈hidden bef l→∃ y∈l,bef.testBit y.no=false∧id∈y.wh
 | [],id,h=>by simp [hidden] at h
 |z::l,id,h=>by
  simp only [hidden] at h
  cases hb:bef.testBit z.no with
  |true=>
   rw [hb,cond_true] at h
   obtain ⟨y,h1,h2⟩:=hidden_mem h
   exact ⟨y,List.mem_cons_of_mem _ h1,h2⟩
  |false=>
   rw [hb,cond_false] at h
   rcases List.mem_append.1 h with h|h
   ·exact ⟨z,List.mem_cons_self ..,hb,h⟩
   ·obtain ⟨y,h1,h2⟩:=hidden_mem h
    exact ⟨y,List.mem_cons_of_mem _ h1,h2⟩
theorem apartAll_no {bef no:Nat}{d:Option Nat}{n:Nat}{v:Option AV}:∀ (l:List Rec),apartAll bef ⟨no,.no,d,⟨v,[],[],n,none⟩⟩ l=true
 | []=>rfl
 |y::l=>by
  simp only [apartAll,apartAll_no l,Bool.and_true,Bool.or_eq_true]
  right
  have e1:Foot.meets Foot.no y.wl y.wh=false:=by
   simp [Foot.meets,Foot.no]
  have e2:Foot.meets y.foot [] []=false:=by simp [Foot.meets]
  simp [Rec.apart,Rec.wl,Rec.wh,e1,e2]
  simp [Rec.wl,Rec.wh] at e1
  exact e1
structure RecOk (P:Program) (C:Cx) (ops:Array Oper) (Q:Exit→Act→World→Prop) (i:Nat) (s:AS) (ear:List Rec) (ao:AOper) (x:Rec):Prop where
 no:x.no=i
 dst:x.dst=ao.dst
 all:x.eff.all=none∨(i+1=ops.size∧∀ j,j<i→ao.bef.testBit j=true)
 num:s.n≤x.eff.n
 low:HB s.h s.n
 lim:∀ n hid,x.foot.lim=some (n,hid)→n=s.n∧hid=hidden ao.bef ear
 apart:apartAll ao.bef x ear=true
 step:StepAt P C ops Q i x ao.look s.n s.fs
theorem befAll_of {b:Nat}:∀ {j:Nat},befAll j b=true→∀ i,i<j→b.testBit i=true
 |0,_,i,h=>by omega
 |j+1,h,i,hi=>by
  simp only [befAll,Bool.and_eq_true] at h
  by_cases e:i=j
  ·subst e;exact h.1
  ·exact befAll_of h.2 i (by omega)
theorem evDraw_tr {P:Program}{C:Cx}{O:Orc}{r:Res}{ops:List Oper}{Q:Exit→Act→World→Prop}{k:AS→Option Res}(hO:OSound P C.ng O) :
  ∀ (al:List AOper) (l:List Oper) (j:Nat) (s:AS) (rs:List Rec),okOps P C.ng C.N ops l al=true→(∀ m,l[m]? = ops[j+m]?)→HB s.h s.n→evDraw O C.fl j al s rs k=some r→
   ∃ xs:List Rec,xs.length=l.length∧k (puts s xs)=some r∧Heir s.h s.n (puts s xs).h (puts s xs).n∧
    ∀ (m:Nat) (x:Rec),xs[m]? = some x→∃ ao,al[m]? = some ao∧RecOk P C ops.toArray Q (j+m) (puts s (xs.take m)) ((xs.take m).reverse++rs) ao x
 | [],[],j,s,rs,_,_,hb,h=>⟨[],rfl,h,Heir.refl _ _,fun m x hx=>by simp at hx⟩
 |ao::al,o::l,j,s,rs,ok,hl,hb,h=>by
  simp only [okOps,okOper,Bool.and_eq_true] at ok
  obtain ⟨⟨⟨ok1,ok2⟩,ok3⟩,ok4⟩:=ok
  obtain ⟨hd,hdN⟩:=dstEq_of ok1
  have hl':∀ m,l[m]? = ops[j+1+m]?:=fun m=>by
   have:=hl (m+1)
   simpa [show j+(m+1)=j+1+m by omega] using this
  have ho:ops.toArray[j]? = some o:=by
   have:=hl 0
   simpa using this.symm
  have both:∀ (x:Rec),RecOk P C ops.toArray Q j s rs ao x→HeirE s x.eff→evDraw O C.fl (j+1) al (s.put x.dst x.eff) (x::rs) k=some r→
    ∃ xs:List Rec,xs.length=(o::l).length∧k (puts s xs)=some r∧Heir s.h s.n (puts s xs).h (puts s xs).n∧
     ∀ (m:Nat) (x:Rec),xs[m]? = some x→∃ ao',(ao::al)[m]? = some ao'∧RecOk P C ops.toArray Q (j+m) (puts s (xs.take m)) ((xs.take m).reverse++rs) ao' x:=by
   intro x hx he h
   have hp:=he.put x.dst
   obtain ⟨xs,g1,g2,g3,g4⟩:=evDraw_tr hO al l (j+1) (s.put x.dst x.eff) (x::rs) ok4 hl' (hp.hb hb) h
   refine ⟨x::xs,by simp [g1],g2,hp.trans g3,fun m y hy=>?_⟩
   cases m with
   |zero=>simp at hy;subst hy;exact ⟨ao,rfl,hx⟩
   |succ m=>
    simp at hy
    obtain ⟨ao',q1,q2⟩:=g4 m y hy
    refine ⟨ao',by simpa using q1,?_⟩
    have e:j+1+m=j+(m+1):=by omega
    rw [e] at q2
    simpa [puts] using q2
  have run:(evOp O C.fl ao.dst ao.op { s with h:=hhide (hidden ao.bef rs) s.h } fun e f=>
    let x:Rec:=⟨j,f.hide s.n (hidden ao.bef rs),ao.dst,e⟩
    bif okAll j ao.bef e.all al (hidden ao.bef rs)&&apartAll ao.bef x rs then evDraw O C.fl (j+1) al (s.put ao.dst e) (x::rs) k else none)=some r→
    (∀ (F:FS) (θ:Th) (σ:Nat→Option Nat) (a:Act) (w:World),Rep P C θ σ F a w→(∀ t,t∈ao.look→F.tmp t=s.fs.tmp t)→Region.wanted o (yielded ops.toArray a.tmps)=true)→
    ∃ xs:List Rec,xs.length=(o::l).length∧k (puts s xs)=some r∧Heir s.h s.n (puts s xs).h (puts s xs).n∧
     ∀ (m:Nat) (x:Rec),xs[m]? = some x→∃ ao',(ao::al)[m]? = some ao'∧RecOk P C ops.toArray Q (j+m) (puts s (xs.take m)) ((xs.take m).reverse++rs) ao' x:=by
   intro h hw
   rw [← hd] at h
   obtain ⟨e,f,h1,h2,h3,h4⟩:=op_all (s:={ s with h:=hhide (hidden ao.bef rs) s.h }) hO (hb_hide hb) ok3 h
   simp only at h1
   cases hwk:okAll j ao.bef e.all al (hidden ao.bef rs) with
   |false=>simp [hwk] at h1
   |true=>
    have ha:e.all=none∨(j+1=ops.toArray.size∧∀ i,i<j→ao.bef.testBit i=true):=by
     cases hz:e.all with
     |none=>exact .inl rfl
     |some hh=>
      rw [hz] at hwk
      simp only [okAll,Bool.and_eq_true,List.isEmpty_iff] at hwk
      obtain ⟨⟨z1,rfl⟩,_⟩:=hwk
      refine .inr ⟨?_,befAll_of z1⟩
      have e0:l=[]:=by
       cases l with
       |nil=>rfl
       |cons _ _=>simp [okOps] at ok4
      subst e0
      have e1:=hl' 0
      simp only [List.getElem?_nil,Nat.add_zero] at e1
      have e2:=(Array.getElem?_eq_some_iff.1 ho).1
      have e3:=List.getElem?_eq_none_iff.1 e1.symm
      have e4:ops.toArray.size=ops.length:=by simp
      omega
    cases hq:apartAll ao.bef ⟨j,f.hide s.n (hidden ao.bef rs),o.dst,e⟩ rs with
    |false=>simp [hq] at h1
    |true=>
     rw [hwk,hq,Bool.and_self,cond_true] at h1
     have hlocs:(f.hide s.n (hidden ao.bef rs)).locs=f.locs:=by unfold Foot.hide;split<;>rfl
     have hhps:(f.hide s.n (hidden ao.bef rs)).hps=f.hps:=by unfold Foot.hide;split<;>rfl
     have hlim:f.lim.isSome=true→(f.hide s.n (hidden ao.bef rs)).lim=some (s.n,hidden ao.bef rs):=fun q=>by
      unfold Foot.hide
      split
      ·rename_i z;rw [z] at q;cases q
      ·rfl
     refine both ⟨j,f.hide s.n (hidden ao.bef rs),o.dst,e⟩ ⟨rfl,hd,ha,h3,hb,fun n hid hl=>?_,hq,?_⟩ (okAll_wide h2 hwk) h1
     ·simp only at hl
      cases q:f.lim with
      |none=>rw [Foot.hide,q] at hl;simp only at hl;rw [q] at hl;cases hl
      |some p=>rw [hlim (by rw [q];rfl)] at hl;cases hl;exact ⟨rfl,rfl⟩
     ·intro F θ σ a w R hag hf K hK
      obtain ⟨a1,a2,a3,a4⟩:=hag
      unfold wpOp
      rw [ho]
      simp only [hw F θ σ a w R a1,if_true]
      left
      refine h4 F θ σ a w R hdN (fun t ht=>a1 t (List.mem_append_left _ ht)) (fun t ht=>a2 t (by rw [hlocs];exact ht)) ⟨fun id hi=>?_,fun hs id y hy=>?_⟩ hf K Q hK
      ·have hi':id∈(f.hide s.n (hidden ao.bef rs)).hps:=by rw [hhps];exact hi
       rw [a3 id hi']
       show hget s.h id=hget (hhide (hidden ao.bef rs) s.h) id
       rw [hget_hhide,if_neg]
       intro hm
       obtain ⟨y,y1,y2,y3⟩:=hidden_mem hm
       rcases apartAll_of hq y y1 with z|z
       ·rw [y2] at z;cases z
       ·simp only [Rec.apart,Bool.and_eq_true] at z
        exact (meets_false z.1.1.1).2.1 id y3 hi'
      ·simp only [hget_hhide] at hy
       split at hy
       ·cases hy
       ·rename_i hn
        exact a4 s.n _ (hlim hs) id y hn hy
  have skip:evDraw O C.fl (j+1) al (s.undef ao.dst) (⟨j,.no,ao.dst,⟨some (.tup []),[],[],s.n,none⟩⟩::rs) k=some r→
    (∀ (F:FS) (θ:Th) (σ:Nat→Option Nat) (a:Act) (w:World),Rep P C θ σ F a w→(∀ t,t∈ao.look→F.tmp t=s.fs.tmp t)→Region.wanted o (yielded ops.toArray a.tmps)=false)→
    ∃ xs:List Rec,xs.length=(o::l).length∧k (puts s xs)=some r∧Heir s.h s.n (puts s xs).h (puts s xs).n∧
     ∀ (m:Nat) (x:Rec),xs[m]? = some x→∃ ao',(ao::al)[m]? = some ao'∧RecOk P C ops.toArray Q (j+m) (puts s (xs.take m)) ((xs.take m).reverse++rs) ao' x:=by
   intro h hw
   refine both ⟨j,.no,ao.dst,⟨some (.tup []),[],[],s.n,none⟩⟩ ⟨rfl,rfl,.inl rfl,Nat.le_refl _,hb,(fun n hid hl=>by cases hl),apartAll_no _,?_⟩ heir0 h
   intro F θ σ a w R hag hf K hK
   unfold wpOp
   rw [ho]
   simp only [hw F θ σ a w R hag.1,Bool.false_eq_true,if_false]
   rw [← hd] at hK
   rw [hd] at hK ⊢
   refine hK θ σ _ _ (Th.ext_refl _ _ _) ⟨R.m.same (by funext q;simp [FS.put,lget_nil,lget_cns]) (by funext q;simp [FS.put,hlook_nl,hlook_cns]) (Chg.refl _ _),?_⟩
   exact R.t.step (Th.le_refl _) (fun _ _=>rfl) (hd▸hdN) (fun _ e=>undef_rel e) (fun _ _ e=>by cases e)
  simp only [evDraw] at h
  cases hg:ao.guard with
  |none=>
   rw [hg] at h ok2
   cases hg':o.guard with
   |some p=>rw [hg'] at ok2;obtain ⟨_,_⟩:=p;simp [okGuard] at ok2
   |none=>exact run h fun _ _ _ _ _ _ _=>by simp [Region.wanted,hg']
  |some p=>
   obtain ⟨t,w'⟩:=p
   rw [hg] at h ok2
   cases hg':o.guard with
   |none=>rw [hg'] at ok2;simp [okGuard] at ok2
   |some p=>
    obtain ⟨j',w2⟩:=p
    rw [hg'] at ok2
    simp only at h
    have key:∀ (b:Bool),fget s.fr t=some (.b b)→∀ (F:FS) (θ:Th) (σ:Nat→Option Nat) (a:Act) (w:World),Rep P C θ σ F a w→(∀ t,t∈ao.look→F.tmp t=s.fs.tmp t)→
      Region.wanted o (yielded ops.toArray a.tmps)=(b==w'):=by
     intro b hv F θ σ a w R hag
     have hv':F.tmp t=some (.b b):=by
      rw [hag t (List.mem_append_right _ (by rw [hg];simp))];exact hv
     obtain ⟨e1,e2⟩:=guard_of ok2 R.t.size (R.t.tmp t _ hv')
     subst e1
     simp only [Region.wanted,hg',e2]
     rfl
    split at h
    ·rename_i hv
     cases w' with
     |true=>exact run h fun F θ σ a w R hag=>key true hv F θ σ a w R hag
     |false=>exact skip h fun F θ σ a w R hag=>key true hv F θ σ a w R hag
    ·rename_i hv
     cases w' with
     |true=>exact skip h fun F θ σ a w R hag=>key false hv F θ σ a w R hag
     |false=>exact run h fun F θ σ a w R hag=>key false hv F θ σ a w R hag
    ·rename_i hv
     refine skip h fun F θ σ a w R hag=>?_
     have hv':F.tmp t=some (.tup []):=by
      rw [hag t (List.mem_append_right _ (by rw [hg];simp))];exact hv
     have e2:=guard_undef ok2 R.t.size (R.t.tmp t _ hv')
     simp only [Region.wanted,hg',e2]
     rfl
    ·cases h
 | [],_::_,_,_,_,ok,_,_,_=>by simp [okOps] at ok
 |_::_,[],_,_,_,ok,_,_,_=>by simp [okOps] at ok
def lkOf (al:List AOper)(i:Nat):List Nat:=match al[i]? with|some a=>a.look|none=>[]
def bfOf (al:List AOper)(i j:Nat):Bool:=(befAt al i).testBit j
theorem okOps_len {P:Program}{ng N:Nat}{ops:List Oper}:∀ {l:List Oper}{al:List AOper},okOps P ng N ops l al=true→l.length=al.length
 | [],[],_=>rfl
 |o::l,a::al,h=>by
  simp only [okOps,Bool.and_eq_true] at h
  simp [okOps_len h.2]
 | [],_::_,h=>by simp [okOps] at h
 |_::_,[],h=>by simp [okOps] at h
theorem drawn_of {P:Program}{C:Cx}{ops:List Oper}{al:List AOper}{Q:Exit→Act→World→Prop}{s:AS}{xs:List Rec}(hlen:xs.length=ops.length)(ok:okDraw ops al=true)
  (h:∀ (m:Nat) (x:Rec),xs[m]? = some x→∃ ao,al[m]? = some ao∧RecOk P C ops.toArray Q m (puts s (xs.take m)) (xs.take m).reverse ao x) :
  Drawn P C ops.toArray Q s xs (lkOf al) (bfOf al):=by
 simp only [okDraw,Bool.and_eq_true] at ok
 obtain ⟨o1,o2⟩:=ok
 obtain ⟨b0,b1⟩:=okBefs_of o1
 obtain ⟨_,p2⟩:=okPairs_of o2
 refine ⟨by simpa using hlen,fun i x hx=>?_,fun i x hx=>?_,fun i x hx=>?_,fun i x hx=>?_,fun i x n hid hx hl=>?_,fun i j xi xj hji hxi hxj=>?_,fun i j hb=>?_,fun i o ho e he hb=>?_⟩
 ·obtain ⟨ao,ha,q⟩:=h i x hx
  rcases q.all with z|⟨z1,z2⟩
  ·exact .inl z
  ·refine .inr ⟨by rw [hlen];simpa using z1,fun j hj=>?_⟩
   have e1:befAt al i=ao.bef:=by simp [befAt,ha]
   unfold bfOf
   rw [e1]
   exact z2 j hj
 ·obtain ⟨ao,_,q⟩:=h i x hx;exact q.num
 ·obtain ⟨ao,ha,q⟩:=h i x hx
  have:lkOf al i=ao.look:=by simp [lkOf,ha]
  rw [this];exact q.step
 ·obtain ⟨ao,_,q⟩:=h i x hx;exact q.low
 ·obtain ⟨ao,_,q⟩:=h i x hx;exact (q.lim n hid hl).1
 ·obtain ⟨ai,hai,qi⟩:=h i xi hxi
  obtain ⟨aj,haj,qj⟩:=h j xj hxj
  have ebi:bfOf al i j=ai.bef.testBit j:=by simp [bfOf,befAt,hai]
  rw [ebi]
  cases hb:ai.bef.testBit j with
  |true=>exact .inl rfl
  |false=>
   right
   have e1:lkOf al i=ai.look:=by simp [lkOf,hai]
   have e2:lkOf al j=aj.look:=by simp [lkOf,haj]
   rw [e1,e2]
   have hmem:xj∈(xs.take i).reverse:=by
    rw [List.mem_reverse]
    refine List.mem_of_getElem? (i:=j) ?_
    rw [List.getElem?_take,if_pos hji];exact hxj
   have hno:=qj.no
   have hap:xi.apart xj=true:=by
    rcases apartAll_of qi.apart xj hmem with z|z
    ·rw [hno,hb] at z;cases z
    ·exact z
   have htm:tmpsApart ai aj=true:=by
    rcases p2 i j ai aj hji hai haj with z|z
    ·rw [Nat.zero_add,hb] at z;cases z
    ·exact z
   simp only [Rec.apart,Bool.and_eq_true] at hap
   obtain ⟨⟨⟨c1,c2⟩,c3⟩,c4⟩:=hap
   have m1:=meets_false c1
   have m2:=meets_false c2
   simp only [tmpsApart,Bool.and_eq_true] at htm
   obtain ⟨t1,t2⟩:=htm
   refine ⟨fun d hd=>?_,fun d hd=>?_,fun q hq=>⟨m1.1 q hq,any_false c3 q hq⟩,m2.1,fun q hq=>⟨m1.2.1 q hq,any_false c4 q hq⟩,m2.2.1,fun n hid hl id hid'=>?_,m2.2.2⟩
   ·rw [qj.dst] at hd
    rw [hd] at t1
    simp only [Bool.and_eq_true] at t1
    refine ⟨elem_false t1.1,fun e=>?_⟩
    rw [qi.dst] at e
    have:=t1.2
    rw [e] at this
    simp [beq_true.2] at this
   ·rw [qi.dst] at hd
    rw [hd] at t2
    exact elem_false t2
   ·rw [(qi.lim n hid hl).2]
    exact hidden_of hmem (by rw [hno];exact hb) id hid'
 ·unfold bfOf befAt at hb
  split at hb
  ·rename_i a ha
   have hlt:i<ops.length:=by rw [b0];exact (List.getElem?_eq_some_iff.1 ha).1
   have ho:ops[i]? = some ops[i]:=List.getElem?_eq_getElem hlt
   obtain ⟨q1,_⟩:=b1 i _ a ho ha
   rw [q1] at hb
   obtain ⟨e,h1,h2,h3⟩:=befOf_of hb
   exact ⟨ops[i],by simp,e,Array.mem_toList_iff.1 h1,h2,h3⟩
  ·simp at hb
 ·have ho':ops[i]? = some o:=by simpa using ho
  have hlt:i<al.length:=by rw [← b0];exact (List.getElem?_eq_some_iff.1 ho').1
  obtain ⟨_,q⟩:=b1 i o _ ho' (List.getElem?_eq_getElem hlt)
  rw [Nat.zero_add] at q
  exact okEdges_of q e (Array.mem_toList_iff.2 he) hb
theorem upds_none {β:Type}{upd:Nat→Option β}{x0:β}:∀ (n:Nat),upds upd (fun _=>false) x0 n=x0
 |0=>rfl
 |n+1=>by simp only [upds,Bool.false_eq_true,if_false];exact upds_none n
theorem unl_le {listed:Array Bool}:∀ m,unl listed m≤m
 |0=>Nat.le_refl _
 |m+1=>by
  have:=unl_le (listed:=listed) m
  simp only [unl];split<;>omega
theorem evDraw_sound {P:Program}{C:Cx}{O:Orc}{θ0:Th}{n0 nf:Nat}{r:Res}{id:Nat}{ops:Array Oper}{al:List AOper}{Q:Exit→Act→World→Prop}{k:AS→Option Res}{s:AS}{a:Act}{w:World}
  (hP:P.follows .mixedOrders=true) (hO:OSound P C.ng O) (hn:∀ s',HB s'.h s'.n→k s'=some r→s'.n≤nf) (hk:∀ s' a' w',k s'=some r→Good P C θ0 n0 nf s' a' w'→Q .normal a' w')
  (ok:okOps P C.ng C.N ops.toList ops.toList al=true) (ok2:okDraw ops.toList al=true) (g:Good P C θ0 n0 nf s a w) (h:evDraw O C.fl 0 al s [] k=some r) :
  (Code.region id ops true).wp P Q a w:=by
 obtain ⟨⟨θ,σ,R,hx,hf⟩,hb,hle⟩:=g
 obtain ⟨xs,h1,h2,h3,h4⟩:=evDraw_tr (Q:=Q) hO al ops.toList 0 s [] ok (fun m=>by simp) hb h
 have D:=drawn_of (P:=P) (C:=C) (ops:=ops.toList) (al:=al) (Q:=Q) (s:=s) (xs:=xs) h1 ok2 (fun m x hx=>by simpa using h4 m x hx)
 have hfull:puts s (xs.take xs.length)=puts s xs:=by rw [List.take_length]
 have hnlast:nn s xs xs.length=(puts s xs).n:=by unfold nn;rw [hfull]
 have eo:ops.toList.toArray=ops:=by simp
 rw [eo] at D
 have hL:(fun j=>(Array.replicate ops.size false).getD j false)=(fun _=>false):=by
  funext j
  simp only [Array.getD_eq_getD_getElem?,Array.getElem?_replicate]
  split<;>rfl
 refine wp_region_any hP (D.sound (θ0:=θ) (nf:=nf) hf (by rw [hnlast];exact hn _ (h3.hb hb) h2) (fun θ' σ' a' w' R' ht=>?_) ops.size _ a _ θ σ (by simp) ?_ (unl_le _) ?_ ?_)
 ·refine hk _ a' w' h2 ⟨⟨θ',σ',R',⟨fun id=>?_,Th.fle_trans hx.fz ht.2⟩,fun id g1 g2=>?_⟩,h3.hb hb,Nat.le_trans hle h3.1⟩
  ·rcases ht.1 id with q|⟨q,j,j1,_,j2,j3⟩
   ·rcases hx.pl id with z|⟨z1,z2,z3⟩
    ·exact .inl (q.trans z)
    ·exact .inr ⟨z1,z2,Nat.lt_of_lt_of_le z3 h3.1⟩
   ·have a1:=D.nn_le (i:=0) (j:=j) (by omega) (by omega)
    have a2:=D.nn_le (i:=j+1) (j:=xs.length) (by omega) (Nat.le_refl _)
    have a3:nn s xs 0=s.n:=rfl
    refine .inr ⟨?_,by omega,by omega⟩
    rcases hx.pl id with z|⟨z1,_⟩
    ·rw [← z];exact q
    ·exact z1
  ·rcases ht.1 id with q|⟨q,j,j1,_,j2,j3⟩
   ·rw [q];exact hf id (by have:=h3.1;omega) g2
   ·have a2:=D.nn_le (i:=j+1) (j:=xs.length) (by omega) (Nat.le_refl _)
    omega
 ·rw [hL];intro i o _ q;cases q
 ·rw [hL]
  have:FL s.fs xs (fun _=>false) xs.length=s.fs:=by
   unfold FL
   congr 1<;>funext t<;>exact upds_none _
  rw [this]
  exact ⟨R.m.same rfl rfl (Chg.drew _ _),R.t⟩
 ·exact ⟨fun id=>.inl rfl,Th.fle_refl _⟩
end Go.Proofs.YtchgkmdonhdfeaaGreatDoor.Ab
/- A region that writes out a map of whole numbers, and no more: what it leaves. No condition: lemmas only. -/
set_option linter.unusedVariables false
set_option linter.unusedSimpArgs false
namespace Go.Proofs.YtchgkmdonhdfeaaGreatDoor.Ab
open Go
def okMvs (N:Nat):List Oper→List Nat→List Nat→Bool
 | [],[],_=>true
 |o::l,d::ds,xs=>o.guard.isNone&&decide (o.dst=some d)&&Nat.blt d N&&(match o.op with
   | .move (.tmp x) | .assign (.tmp x)=>xs.elem x
   |_=>false)&&okMvs N l ds (d::xs)
 |_,_,_=>false
def okIns (N:Nat)(t m:Nat)(kd:IntKind)(ds:List Nat):List Oper→List (Int×Int)→List Int→Bool
 |l,[],_=>okMvs N l ds [m]
 | [],_::_,_=>false
 |o::l,(p,q)::r,seen=>o.guard.isNone&&o.dst.isNone&&(match o.op with
   | .insert t' (.tmp m') (.const (.int k1 p')) (.const (.int k2 q'))=>Nat.beq t' t&&Nat.beq m' m&&IntKind.same k1 kd&&decide (p'=p)&&IntKind.same k2 .i64&&decide (q'=q)
   |_=>false) && !(seen.elem p)&&okIns N t m kd ds l r (p::seen)
def okRegm (P:Program)(N:Nat)(m:Nat)(ds:List Nat)(kd:IntKind)(kvs:List (Int×Int)):List Oper→Bool
 | []=>false
 |o::l=>o.guard.isNone&&decide (o.dst=some m)&&Nat.blt m N&&(match o.op with
   | .makeMap t none=>(match P.underlying t with
    |some (.map kt _)=>(match P.underlying kt with
     |some (.int k)=>IntKind.same k kd
     |_=>false)&&okIns N t m kd ds l kvs []
    |_=>false)
   |_=>false)
theorem same_eq' {a b:IntKind}(h:IntKind.same a b=true):a=b:=by cases a<;>cases b<;>first|rfl|cases h
def vflat (kd:IntKind):List (Int×Int)→List Value
 | []=>[]
 |(p,q)::r=>.int kd p :: .int .i64 q::vflat kd r
theorem vflat_rel (θ:Th)(kd:IntKind):∀ kvs,VRels θ (mkvs kd kvs) (vflat kd kvs)
 | []=>by simp only [mkvs,vflat,VRels]
 |(p,q)::r=>by
  simp only [mkvs,vflat,VRels,VRel]
  exact ⟨_,_,rfl,rfl,_,_,rfl,rfl,vflat_rel θ kd r⟩
theorem mflat_append:∀ a b:List MapEntry,mflat (a++b)=mflat a++mflat b
 | [],_=>rfl
 |e::a,b=>by simp only [List.cons_append,mflat,mflat_append a b]
theorem wpList_none {P:Program}{ops:Array Oper}{Q:Exit→Act→World→Prop}{o:Oper}{l:List Oper}{a:Act}{w:World}(hg:o.guard.isNone=true)(h:∀ K:Act→World→Prop,(∀ a w,wpList P ops Q l a w→K a w)→o.wp P a w K Q):wpList P ops Q (o::l) a w:=by
 refine wpList_step fun K hK=>?_
 have:o.guard=none:=by simpa using hg
 simp only [Region.wanted,this,if_true]
 exact h K hK
structure Mvd (N:Nat) (a a':Act) (xs:List Nat) (u:Value):Prop where
 size:a'.tmps.size=N
 defers:a'.defers=[]
 on:∀ t,t∈xs→a'.tmps.getD t undef=u
 off:∀ t,t∉xs→a'.tmps.getD t undef=a.tmps.getD t undef
theorem Mvd.put {N:Nat}{a a':Act}{xs:List Nat}{u:Value}(h:Mvd N a a' xs u){d:Nat}(hd:d<N):Mvd N a (a'.put (some d) u) (d::xs) u:=by
 refine ⟨by rw [Act.put_size];exact h.size,by rw [Act.put_defers];exact h.defers,fun t ht=>?_,fun t ht=>?_⟩
 ·rw [Act.put_get a' d u (by rw [h.size];exact hd)]
  by_cases e:d=t
  ·rw [if_pos e]
  ·rw [if_neg e]
   rcases List.mem_cons.1 ht with q|q
   ·exact absurd q.symm e
   ·exact h.on t q
 ·rw [Act.put_get a' d u (by rw [h.size];exact hd)]
  have h1:d≠t:=fun e=>ht (by rw [e];exact List.mem_cons_self ..)
  rw [if_neg h1]
  exact h.off t fun q=>ht (List.mem_cons_of_mem _ q)
theorem mvs_run {P:Program}{ops:Array Oper}{Q:Exit→Act→World→Prop}{N:Nat}{a:Act}{w:World}{u:Value}:∀ (l:List Oper) (ds xs:List Nat) (a':Act),okMvs N l ds xs=true→Mvd N a a' xs u→
  (∀ a2,Mvd N a a2 (ds.reverse++xs) u→Q .normal a2 w)→wpList P ops Q l a' w
 | [],[],xs,a',_,h,hQ=>hQ a' h
 |o::l,d::ds,xs,a',ok,h,hQ=>by
  simp only [okMvs,Bool.and_eq_true,decide_eq_true_eq] at ok
  obtain ⟨⟨⟨⟨o1,o2⟩,o3⟩,o4⟩,o5⟩:=ok
  refine wpList_none o1 fun K hK=>?_
  have run:(execOp a'.eval o).run P w=.ok (.value u) w:=by
   split at o4
   ·rename_i x ho
    have hx:=h.on x (by simpa using o4)
    have e:a'.eval (.tmp x)=u:=hx
    simp [execOp,ho,e]
   ·rename_i x ho
    have hx:=h.on x (by simpa using o4)
    have e:a'.eval (.tmp x)=u:=hx
    simp [execOp,ho,e]
   ·cases o4
  unfold Oper.wp
  rw [run,Oper.upon_value,o2]
  refine hK _ _ (mvs_run l ds (d::xs) _ o5 (h.put (Nat.le_of_ble_eq_true o3)) fun a2 h2=>hQ a2 ?_)
  rw [List.reverse_cons,List.append_assoc]
  exact h2
 | [],_::_,_,_,ok,_,_=>by simp [okMvs] at ok
 |_::_,[],_,_,ok,_,_=>by simp [okMvs] at ok
theorem find_none {kd:IntKind}{p:Int}:∀ {es:List MapEntry}{seen:List Int}(i:Nat),es.map (·.key)=seen.map (Value.int kd)→p∉seen→Instr.findNow (.int kd) (.int kd p) es i=some none
 | [],_,_,_,_=>rfl
 |e::es,[],_,h,_=>by simp at h
 |e::es,s::seen,i,h,hp=>by
  simp only [List.map_cons,List.cons.injEq] at h
  have hn:p≠s:=fun q=>hp (by rw [q];exact List.mem_cons_self ..)
  have h1:Instr.sameNow (.int kd) (.int kd p) e.key=some false:=by
   rw [h.1]
   simp [Instr.sameNow,hn]
  unfold Instr.findNow
  rw [h1]
  exact find_none (i+1) h.2 fun q=>hp (List.mem_cons_of_mem _ q)
theorem ins_run {P:Program}{ops:Array Oper}{Q:Exit→Act→World→Prop}{N:Nat}{t m:Nat}{kd:IntKind}{ds:List Nat}{kt et:TypeId}(hm:P.underlying t=some (.map kt et))(hk:P.underlying kt=some (.int kd)){a a':Act}{b:Nat}{w0:World}(hb0:w0.heap.size≤b)
  (ha:Mvd N a a' [m] (.map (some b))):∀ (l:List Oper) (kvs:List (Int×Int)) (seen:List Int) (w:World) (es:Array MapEntry) (n:Nat),okIns N t m kd ds l kvs seen=true→w.heap[b]? = some (.map es n)→es.toList.map (·.key)=(seen.reverse).map (Value.int kd)→Chg (fun _=>False) w0 w→
  (∀ a2 w2 es2 n2,Mvd N a a2 (ds.reverse++[m]) (.map (some b))→w2.heap[b]? = some (.map es2 n2)→mflat es2.toList=mflat es.toList++vflat kd kvs→Chg (fun _=>False) w0 w2→Q .normal a2 w2)→wpList P ops Q l a' w
 |l,[],seen,w,es,n,ok,hb,hs,hc,hQ=>by
  have ok':okMvs N l ds [m]=true:=by cases l<;>exact ok
  exact mvs_run l ds [m] a' ok' ha fun a2 h2=>hQ a2 w es n h2 hb (by simp only [vflat,List.append_nil]) hc
 | [],_::_,_,_,_,_,ok,_,_,_,_=>by simp [okIns] at ok
 |o::l,(p,q)::r,seen,w,es,n,ok,hb,hs,hc,hQ=>by
  simp only [okIns,Bool.and_eq_true] at ok
  obtain ⟨⟨⟨⟨o1,o2⟩,o3⟩,o4⟩,o5⟩:=ok
  refine wpList_none o1 fun K hK=>?_
  have hd:o.dst=none:=by simpa using o2
  split at o3
  ·rename_i t' m' k1 p' k2 q' ho
   simp only [Bool.and_eq_true,decide_eq_true_eq] at o3
   obtain ⟨⟨⟨⟨⟨z1,z2⟩,z3⟩,z4⟩,z5⟩,z6⟩:=o3
   have z1:=beq_true.1 z1;have z2:=beq_true.1 z2;have z3:=same_eq' z3;have z5:=same_eq' z5
   subst z1 z2 z3 z4 z5 z6
   have hp:p'∉seen:=by simpa using o4
   have e1:a'.eval (.tmp m')=.map (some b):=ha.on m' (List.mem_singleton.2 rfl)
   have hfind:Instr.findNow (.int k1) (.int k1 p') es.toList 0=some none:=find_none 0 hs (fun z=>hp (List.mem_reverse.1 z))
   have hck:(Instr.checkKey false 10000 kt (.int k1 p')).run P w=.ok () w:=MapKept.run_checkKey (k:=.int k1 p') hk (by simp [MapKept.IsKey]) false 9999
   have hrun:(Instr.mapUpdate t' (.map (some b)) (.int k1 p') (.int .i64 q')).run P w=.ok () { w with heap:=w.heap.setIfInBounds b (.map (es.push { key:=.int k1 p',val:=.int .i64 q',born:=n }) (n+1)) }:=by
    simp [Instr.mapUpdate,run_underlying hm,MapKept.run_getObj_map hb,hck,MapKept.run_findKey hk hfind,MapKept.run_setObj_map _ hb,Result.andThen]
   have e2:a'.eval (.const (.int k1 p'))=.int k1 p':=rfl
   have e3:a'.eval (.const (.int .i64 q'))=.int .i64 q':=rfl
   have run:(execOp a'.eval o).run P w=.ok .skip { w with heap:=w.heap.setIfInBounds b (.map (es.push { key:=.int k1 p',val:=.int .i64 q',born:=n }) (n+1)) }:=by
    simp [execOp,ho,e1,e2,e3,hrun,Result.andThen]
   unfold Oper.wp
   rw [run,Oper.upon_skip,hd]
   have hset:=MapKept.heap_set (o':=.map (es.push { key:=.int k1 p',val:=.int .i64 q',born:=n }) (n+1)) hb
   refine hK _ _ (ins_run hm hk hb0 ha l r (p'::seen) _ (es.push { key:=.int k1 p',val:=.int .i64 q',born:=n }) (n+1) o5 hset.1 ?_ ?_ ?_)
   ·rw [Array.toList_push,List.map_append,hs,List.reverse_cons,List.map_append];rfl
   ·exact ⟨hc.os,hc.tape,hc.output,by simpa using hc.size,fun b' hb' hf=>(hset.2 b' (by omega)).trans (hc.block b' hb' hf)⟩
   ·intro a2 w2 es2 n2 h1 h2 h3 h4
    refine hQ a2 w2 es2 n2 h1 h2 ?_ h4
    rw [h3,Array.toList_push,mflat_append,List.append_assoc]
    rfl
  ·cases o3
theorem fget_mfr {m:Nat}{v:AV}{fr:List (Nat×AV)}:∀ {ds:List Nat}{t:Nat},fget (mfr m ds v fr) t=if t∈ds∨t=m then some v else fget fr t
 | [],t=>by
  unfold mfr
  rw [List.map_nil,List.nil_append,fget_cons]
  by_cases e:m=t
  ·rw [if_pos e,if_pos (.inr e.symm)]
  ·rw [if_neg e,if_neg (fun q=>by rcases q with q|q;cases q;exact e q.symm)]
 |d::ds,t=>by
  have ih:=fget_mfr (m:=m) (v:=v) (fr:=fr) (ds:=ds) (t:=t)
  unfold mfr at ih ⊢
  rw [List.map_cons,List.cons_append,fget_cons,ih]
  by_cases e:d=t
  ·rw [if_pos e,if_pos (.inl (by rw [e];exact List.mem_cons_self ..))]
  ·rw [if_neg e]
   by_cases q:t∈ds∨t=m
   ·rw [if_pos q,if_pos (q.elim (fun z=>.inl (List.mem_cons_of_mem _ z)) .inr)]
   ·rw [if_neg q,if_neg (fun z=>q (z.elim (fun z=>by
     rcases List.mem_cons.1 z with z|z
     ·exact absurd z.symm e
     ·exact .inl z) .inr))]
theorem regm_sound {P:Program}{C:Cx}{θ:Th}{σ:Nat→Option Nat}{s:AS}{a:Act}{w:World}{Q:Exit→Act→World→Prop}{m:Nat}{ds:List Nat}{kd:IntKind}{kvs:List (Int×Int)}{ops:Array Oper}(ok:okRegm P C.N m ds kd kvs ops.toList=true)(R:Rep P C θ σ s.fs a w)
  (hQ:∀ φ a2 w2,Th.fle θ ⟨θ.pl,φ⟩→Rep P C ⟨θ.pl,φ⟩ σ (AS.fs { s with fr:=mfr m ds (.mp (mkvs kd kvs)) s.fr }) a2 w2→Q .normal a2 w2):wpList P ops Q ops.toList a w:=by
 cases hl:ops.toList with
 |nil=>rw [hl] at ok;simp [okRegm] at ok
 |cons o l=>
  rw [hl] at ok
  simp only [okRegm,Bool.and_eq_true,decide_eq_true_eq] at ok
  obtain ⟨⟨⟨o1,o2⟩,o3⟩,o4⟩:=ok
  have hmN:=Nat.le_of_ble_eq_true o3
  split at o4<;>first|(cases o4;done)|skip
  rename_i t ho
  split at o4<;>first|(cases o4;done)|skip
  rename_i kt et hm
  simp only [Bool.and_eq_true] at o4
  obtain ⟨o4,o5⟩:=o4
  split at o4<;>first|(cases o4;done)|skip
  rename_i k hk
  have:=same_eq' o4
  subst this
  refine wpList_none o1 fun K hK=>?_
  have run:(execOp a.eval o).run P w=.ok (.value (.map (some w.heap.size))) (w.alloc (.map #[] 0)):=by
   simp [execOp,ho,Instr.makeMap,Result.andThen]
  unfold Oper.wp
  rw [run,Oper.upon_value,o2]
  have ha:Mvd C.N a (a.put (some m) (.map (some w.heap.size))) [m] (.map (some w.heap.size)):=(Mvd.put (xs:=[]) ⟨R.t.size,R.t.defers,(fun t ht=>by cases ht),fun _ _=>rfl⟩ hmN)
  refine hK _ _ (ins_run hm hk (Nat.le_refl _) ha l kvs [] _ #[] 0 o5 (heap_new _ _) rfl (Chg.alloc _ _ _) fun a2 w2 es2 n2 h1 h2 h3 h4=>?_)
  have h3':mflat es2.toList=vflat k kvs:=by rw [h3];rfl
  have hlt:∀ b o u,θ.fz b o=some u→b<w.heap.size:=fun b o u e=>wcell_lt (R.m.fzc b o u e)
  let φ:Nat→Nat→Option Value:=fun b o=>if b=w.heap.size then (if o=0 then some (.iface 0 (.tuple (vflat k kvs).toArray)) else none) else θ.fz b o
  have hf:Th.fle θ ⟨θ.pl,φ⟩:=fun b o u e=>by
   have:=hlt b o u e
   show φ b o=some u
   simp only [φ]
   rw [if_neg (by omega)];exact e
  have hn:∀ b o u,φ b o=some u→θ.fz b o=some u∨(w.heap.size≤b∧wcell w2 b o=some u):=fun b o u e=>by
   simp only [φ] at e
   split at e
   ·rename_i hb
    subst hb
    split at e
    ·rename_i h0
     cases e
     refine .inr ⟨Nat.le_refl _,?_⟩
     unfold wcell
     rw [h2]
     simp only [h0,if_true,h3']
    ·cases e
   ·exact .inl e
  have M':RepM P C ⟨θ.pl,φ⟩ σ (AS.fs { s with fr:=mfr m ds (.mp (mkvs k kvs)) s.fr }) w2:=R.m.grow rfl rfl h4 hf hn
  have hv:VRel ⟨θ.pl,φ⟩ (.mp (mkvs k kvs)) (.map (some w.heap.size)):=by
   simp only [VRel]
   exact ⟨_,(vflat k kvs).toArray,rfl,by simp only [φ];simp,by simpa using vflat_rel _ k kvs⟩
  have hmem:∀ t,t∈ds.reverse++[m]↔(t∈ds∨t=m):=fun t=>by simp
  refine hQ φ a2 w2 hf ⟨M',h1.size,h1.defers,fun t v hv'=>?_,fun t s' off hv'=>?_⟩
  ·have hv':fget (mfr m ds (.mp (mkvs k kvs)) s.fr) t=some v:=hv'
   rw [fget_mfr] at hv'
   split at hv'
   ·rename_i ht
    cases hv'
    rw [h1.on t ((hmem t).2 ht)]
    exact TRel.of hv
   ·rename_i ht
    rw [h1.off t (fun q=>ht ((hmem t).1 q))]
    have r:=R.t.tmp t v hv'
    unfold TRel at r ⊢
    split at r
    ·exact r
    ·exact VRel.mono (θ:=θ) (θ':=⟨θ.pl,φ⟩) ⟨fun _ _ e=>e,hf⟩ _ _ r
  ·have hv':fget (mfr m ds (.mp (mkvs k kvs)) s.fr) t=some (.lp s' off):=hv'
   rw [fget_mfr] at hv'
   split at hv'
   ·cases hv'
   ·exact R.t.lpok t s' off hv'
end Go.Proofs.YtchgkmdonhdfeaaGreatDoor.Ab
/- Code, functions, and functions that call functions: what is evaluated is what the program does. No condition: definitions and lemmas only. -/
set_option linter.unusedVariables false
set_option linter.unusedSimpArgs false
namespace Go.Proofs.YtchgkmdonhdfeaaGreatDoor.Ab
open Go
def okC (P:Program)(ng N:Nat):AC→Code→Bool
 | .skip,.skip=>true
 | .ret,.ret=>true
 | .reg d al,.region _ ops d'=>(d==d')&&okOps P ng N ops.toList ops.toList al&&(!d||okDraw ops.toList al)
 | .seq a b,.seq x y=>okC P ng N a x&&okC P ng N b y
 | .ite c a b,.cond c' x y=>okX ng c' c&&okC P ng N a x&&okC P ng N b y
 | .blk id a,.block id' x=>Nat.beq id id'&&okC P ng N a x
 | .loop a,.loop x=>okC P ng N a x
 | .exit id,.exit id'=>Nat.beq id id'
 | .cut _ _ a,x=>okC P ng N a x
 | .cutg base _ _ a,x=>Nat.beq base ng&&okC P ng N a x
 | .regm m ds kd kvs,.region _ ops d=>!d&&okRegm P N m ds kd kvs ops.toList
 |_,_=>false
theorem keepT_get {fr:List (Nat×AV)}{t:Nat}{v:AV}:∀ {ts:List Nat},fget (keepT fr ts) t=some v→fget fr t=some v
 | [],h=>by simp [keepT,fget_nil,fget_cns] at h
 |x::ts,h=>by
  simp only [keepT] at h
  split at h
  ·rename_i u hu
   rw [fget_cons] at h
   by_cases e:x=t
   ·rw [if_pos e] at h;rw [← e,hu];exact h
   ·rw [if_neg e] at h;exact keepT_get h
  ·exact keepT_get h
theorem keepL_get {fr:List (Nat×List AV)}{t:Nat}{v:List AV}:∀ {ts:List Nat},lget (keepL fr ts) t=some v→lget fr t=some v
 | [],h=>by simp [keepL,lget_nil,lget_cns] at h
 |x::ts,h=>by
  simp only [keepL] at h
  split at h
  ·rename_i u hu
   rw [lget_cons] at h
   by_cases e:x=t
   ·rw [if_pos e] at h;rw [← e,hu];exact h
   ·rw [if_neg e] at h;exact keepL_get h
  ·exact keepL_get h
theorem lpOk_get {loc:List (Nat×List AV)}{t s off:Nat}:∀ {fr:List (Nat×AV)},lpOk loc fr=true→fget fr t=some (.lp s off)→(lget loc s).isSome=true
 | [],_,h=>by simp [fget_nil,fget_cns] at h
 |(k,v)::fr,ok,h=>by
  rw [fget_cons] at h
  by_cases e:k=t
  ·rw [if_pos e] at h;cases h
   simp only [lpOk,Bool.and_eq_true] at ok;exact ok.1
  ·rw [if_neg e] at h
   refine lpOk_get ?_ h
   cases v<;>simp only [lpOk,Bool.and_eq_true] at ok<;>first|exact ok|exact ok.2
theorem Rep.weaken {P:Program}{C:Cx}{θ:Th}{σ:Nat→Option Nat}{F F':FS}{a:Act}{w:World}(R:Rep P C θ σ F a w)(ht:∀ t v,F'.tmp t=some v→F.tmp t=some v)(hl:∀ s v,F'.loc s=some v→F.loc s=some v)
  (hh:F'.hp=F.hp) (hlp:∀ t s off,F'.tmp t=some (.lp s off)→(F'.loc s).isSome=true):Rep P C θ σ F' a w:=
 ⟨⟨R.m.glob,R.m.fin,fun s cs h=>R.m.loc s cs (hl s cs h),fun s s' c1 c2 h h'=>R.m.dll s s' c1 c2 (hl _ _ h) (hl _ _ h'),fun id x h=>R.m.hp id x (hh▸h),fun s c1 id x b o c h h'=>R.m.dlh s c1 id x b o c (hl _ _ h) (hh▸h'),
  fun id id' x x' b o c o' c' h hx h'=>R.m.dhh id id' x x' b o c o' c' (hh▸h) hx (hh▸h'),fun id x b o c h=>R.m.ownok id x b o c (hh▸h),fun id x b o c h=>R.m.bok id x b o c (hh▸h),R.m.chg,
  R.m.fzc,fun s cs b o u h=>R.m.fzl s cs b o u (hl _ _ h),fun id x b o c o' u h=>R.m.fzh id x b o c o' u (hh▸h),R.m.fzn⟩,
  ⟨R.t.size,R.t.defers,fun t v h=>R.t.tmp t v (ht t v h),hlp⟩⟩
def AE.ex':AE→Exit
 | .nrm=>.normal
 | .ex id=>.exit id
 | .ret=>.ret
section
variable {P:Program}{C:Cx}{O:Orc}{θ0:Th}{n0 nf:Nat}{r:Res}
theorem evLoop_sound {c:Code}{Q:Exit→Act→World→Prop}{body:AS→(AE→AS→Option Res)→Option Res}
  (hh:∀ (s:AS) (k:AE→AS→Option Res),HB s.h s.n→body s k=some r→∃ e s',k e s'=some r∧Heir s.h s.n s'.h s'.n)
  (hb:∀ (s:AS) (a:Act) (w:World) (Q:Exit→Act→World→Prop) (k:AE→AS→Option Res),Good P C θ0 n0 nf s a w→(∀ e s',HB s'.h s'.n→k e s'=some r→s'.n≤nf)→
   (∀ e s' a' w',k e s'=some r→Good P C θ0 n0 nf s' a' w'→Q e.ex' a' w')→body s k=some r→c.wp P Q a w) {k:AE→AS→Option Res}
  (hn:∀ e s',HB s'.h s'.n→k e s'=some r→s'.n≤nf) (hk:∀ e s' a' w',k e s'=some r→Good P C θ0 n0 nf s' a' w'→Q e.ex' a' w') :
  ∀ (f:Nat) (s:AS) (a:Act) (w:World),Good P C θ0 n0 nf s a w→evLoop body f s k=some r→Code.rounds P c Q f a w
 |0,s,a,w,_,h=>by simp [evLoop] at h
 |f+1,s,a,w,g,h=>by
  simp only [evLoop] at h
  rw [rounds_succ]
  refine hb s a w _ _ g (fun e s' hb' h'=>?_) (fun e s' a' w' h' g'=>?_) h
  ·cases e with
   |nrm=>
    obtain ⟨e,s2,q1,q2⟩:=evLoop_heir hh f s' hb' h'
    have:=hn e s2 (q2.hb hb') q1
    have:=q2.1
    omega
   |ex id=>exact hn _ s' hb' h'
   |ret=>exact hn _ s' hb' h'
  ·cases e with
   |nrm=>exact evLoop_sound hh hb hn hk f s' a' w' g' h'
   |ex id=>exact hk _ s' a' w' h' g'
   |ret=>exact hk _ s' a' w' h' g'
theorem evC_sound (hP:P.follows .mixedOrders=true)(hO:OSound P C.ng O){F:Nat}:∀ (ac:AC) (c:Code) (s:AS) (a:Act) (w:World) (Q:Exit→Act→World→Prop) (k:AE→AS→Option Res),
  okC P C.ng C.N ac c=true→ac.nog=true→Good P C θ0 n0 nf s a w→(∀ e s',HB s'.h s'.n→k e s'=some r→s'.n≤nf)→(∀ e s' a' w',k e s'=some r→Good P C θ0 n0 nf s' a' w'→Q e.ex' a' w')→
  evC O C.fl F ac s k=some r→c.wp P Q a w
 | .skip,c,s,a,w,Q,k,ok,ng,g,hn,hk,h=>by
  cases c<;>simp only [okC] at ok<;>first|(exact Bool.noConfusion ok)|exact wp_skip (hk .nrm s a w h g)
 | .ret,c,s,a,w,Q,k,ok,ng,g,hn,hk,h=>by
  cases c<;>simp only [okC] at ok<;>first|(exact Bool.noConfusion ok)|exact wp_ret (hk .ret s a w h g)
 | .exit id,c,s,a,w,Q,k,ok,ng,g,hn,hk,h=>by
  cases c<;>simp only [okC] at ok<;>first|(exact Bool.noConfusion ok)|skip
  have e:=beq_true.1 ok;subst e
  exact wp_exit (hk (.ex id) s a w h g)
 | .reg d al,c,s,a,w,Q,k,ok,ng,g,hn,hk,h=>by
  cases c<;>simp only [okC] at ok<;>first|(exact Bool.noConfusion ok)|skip
  rename_i id ops d'
  simp only [Bool.and_eq_true,Bool.or_eq_true] at ok
  obtain ⟨⟨o1,o2⟩,o3⟩:=ok
  have e:d=d':=by simpa using o1
  subst e
  cases d with
  |false=>
   simp only [evC] at h
   refine wp_region_list ?_
   have:=evOps_sound (ops:=ops.toList) hO (fun s' hb h=>hn .nrm s' hb h) (fun s' a' w' h g=>hk .nrm s' a' w' h g) ops.toList al s a w o2 g h
   simpa using this
  |true=>
   simp only [evC] at h
   exact evDraw_sound hP hO (fun s' hb h=>hn .nrm s' hb h) (fun s' a' w' h g=>hk .nrm s' a' w' h g) o2 (by simpa using o3) g h
 | .seq x y,c,s,a,w,Q,k,ok,ng,g,hn,hk,h=>by
  cases c<;>simp only [okC] at ok<;>first|(exact Bool.noConfusion ok)|skip
  simp only [Bool.and_eq_true] at ok
  simp only [evC] at h
  simp only [AC.nog,Bool.and_eq_true] at ng
  refine wp_seq (evC_sound hP hO x _ s a w _ _ ok.1 ng.1 g (fun e s' hb h'=>?_) (fun e s' a' w' h' g'=>?_) h)
  ·cases e with
   |nrm=>
    obtain ⟨e,s2,q1,q2⟩:=evC_heir hO.heir y s' k ng.2 hb h'
    have:=hn e s2 (q2.hb hb) q1
    have:=q2.1
    omega
   |ex id=>exact hn _ s' hb h'
   |ret=>exact hn _ s' hb h'
  ·cases e with
   |nrm=>exact evC_sound hP hO y _ s' a' w' Q k ok.2 ng.2 g' hn hk h'
   |ex id=>exact hk _ s' a' w' h' g'
   |ret=>exact hk _ s' a' w' h' g'
 | .ite x y z,c,s,a,w,Q,k,ok,ng,g,hn,hk,h=>by
  cases c<;>simp only [okC] at ok<;>first|(exact Bool.noConfusion ok)|skip
  simp only [Bool.and_eq_true] at ok
  simp only [evC] at h
  simp only [AC.nog,Bool.and_eq_true] at ng
  obtain ⟨⟨θ,σ,R,hx,hf⟩,hb,hle⟩:=g
  split at h
  ·rename_i hv
   have h1:=xn_rel R ok.1.1 hv (fun _ _=>rfl)
   simp only [VRel] at h1
   exact wp_cond_true h1 (evC_sound hP hO y _ s a w Q k ok.1.2 ng.1 ⟨⟨θ,σ,R,hx,hf⟩,hb,hle⟩ hn hk h)
  ·rename_i hv
   have h1:=xn_rel R ok.1.1 hv (fun _ _=>rfl)
   simp only [VRel] at h1
   exact wp_cond_false h1 (evC_sound hP hO z _ s a w Q k ok.2 ng.2 ⟨⟨θ,σ,R,hx,hf⟩,hb,hle⟩ hn hk h)
  ·cases h
 | .blk id x,c,s,a,w,Q,k,ok,ng,g,hn,hk,h=>by
  cases c<;>simp only [okC] at ok<;>first|(exact Bool.noConfusion ok)|skip
  simp only [Bool.and_eq_true] at ok
  have e:=beq_true.1 ok.1;subst e
  simp only [evC] at h
  refine wp_block (evC_sound hP hO x _ s a w _ _ ok.2 ng g (fun e s' hb h'=>?_) (fun e s' a' w' h' g'=>?_) h)
  ·cases e with
   |nrm=>exact hn _ s' hb h'
   |ex j=>
    simp only at h'
    cases q:Nat.beq j id with
    |true=>rw [q] at h';exact hn _ s' hb h'
    |false=>rw [q] at h';exact hn _ s' hb h'
   |ret=>exact hn _ s' hb h'
  ·cases e with
   |nrm=>exact hk _ s' a' w' h' g'
   |ex j=>
    simp only [AE.ex',Exit.inBlock]
    simp only at h'
    cases q:Nat.beq j id with
    |true=>rw [q] at h';rw [if_pos (beq_true.1 q)];exact hk .nrm s' a' w' h' g'
    |false=>rw [q] at h';rw [if_neg (beq_false.1 q)];exact hk (.ex j) s' a' w' h' g'
   |ret=>exact hk _ s' a' w' h' g'
 | .loop x,c,s,a,w,Q,k,ok,ng,g,hn,hk,h=>by
  cases c<;>simp only [okC] at ok<;>first|(exact Bool.noConfusion ok)|skip
  simp only [evC] at h
  refine wp_loop_rounds F (evLoop_sound (body:=evC O C.fl F x) (fun s k hb h=>evC_heir hO.heir x s k ng hb h) (fun s a w Q k g hn hk h=>evC_sound hP hO x _ s a w Q k ok ng g hn hk h) hn hk F s a w g h)
 | .cutg _ _ _ _,c,s,a,w,Q,k,ok,ng,g,hn,hk,h=>by simp [AC.nog] at ng
 | .regm m ds kd kvs,c,s,a,w,Q,k,ok,ng,g,hn,hk,h=>by
  cases c<;>simp only [okC] at ok<;>first|(exact Bool.noConfusion ok)|skip
  rename_i id ops d'
  simp only [Bool.and_eq_true,Bool.not_eq_true'] at ok
  obtain ⟨o1,o2⟩:=ok
  subst o1
  simp only [evC] at h
  obtain ⟨⟨θ,σ,R,hx,hf0⟩,hb,hle⟩:=g
  refine wp_region_list (regm_sound o2 R fun φ a2 w2 hf R2=>?_)
  exact hk .nrm _ a2 w2 h ⟨⟨⟨θ.pl,φ⟩,σ,R2,⟨hx.pl,Th.fle_trans hx.fz hf⟩,hf0⟩,hb,hle⟩
 | .cut ts ls x,c,s,a,w,Q,k,ok,ng,g,hn,hk,h=>by
  have ok':okC P C.ng C.N x c=true:=by cases c<;>exact ok
  simp only [evC] at h
  split at h
  ·rename_i s' hs
   obtain ⟨q1,q2,q3,q4,q5⟩:=keep_same hs
   obtain ⟨⟨θ,σ,R,hx,hf⟩,hb,hle⟩:=g
   refine evC_sound hP hO x c s' a w Q k ok' ng ⟨⟨θ,σ,R.weaken (fun t v e=>?_) (fun t v e=>?_) ?_ (fun t s2 off e=>?_),by rw [q2];exact hx,by rw [q2];exact hf⟩,by rw [q1,q2];exact hb,by rw [q2];exact hle⟩ hn hk h
   ·simp only [AS.fs,q3] at e;exact keepT_get e
   ·simp only [AS.fs,q4] at e;exact keepL_get e
   ·simp only [AS.fs,q1]
   ·simp only [AS.fs,q3,q4] at e ⊢
    exact lpOk_get q5 e
  ·cases h
end
def okR (P:Program)(N:Nat):ResultVar→AR→Bool
 | .tmp t,.t n=>Nat.beq t n
 | .cell t ty,.cell n sz=>Nat.beq t n&&decide (lie P ty=some sz)
 |_,_=>false
def okRs (P:Program)(N:Nat):List ResultVar→List AR→Bool
 | [],[]=>true
 |x::l,y::r=>okR P N x y&&okRs P N l r
 |_,_=>false
def okFn (P:Program)(ng:Nat)(fn:Func)(f:AFn):Bool:=
 !(fn.name == "runtime.NumGoroutine")&&Nat.beq fn.ntmps f.ntmps&&Nat.ble f.nargs f.ntmps&&okRs P f.ntmps fn.results.toList f.res&&(match fn.body with|some c=>okC P ng f.ntmps f.body c|none=>false)
theorem argsFr_get:∀ (j:Nat) (args:List AV) (t:Nat) (v:AV),fget (argsFr j args) t=some v→j≤t∧args[t-j]? = some v
 |_,[],_,_,h=>by simp [argsFr,fget_nil,fget_cns] at h
 |j,x::args,t,v,h=>by
  simp only [argsFr] at h
  rw [fget_cons] at h
  by_cases e:j=t
  ·rw [if_pos e] at h;subst e;simpa using h
  ·rw [if_neg e] at h
   obtain ⟨h1,h2⟩:=argsFr_get (j+1) args t v h
   refine ⟨by omega,?_⟩
   have:t-j=(t-(j+1))+1:=by omega
   rw [this];simpa using h2
theorem ares_run {P:Program}{C:Cx}{θ:Th}{σ:Nat→Option Nat}{s:AS}{a:Act}{w:World}{N:Nat}{x:ResultVar}{y:AR}{v:AV}(R:Rep P C θ σ s.fs a w)(ok:okR P N x y=true)(h:ares s y=some v) :
  ∃ u,((match x with
   | .tmp t=>pure (a.tmps.getD t undef)
   | .cell p t=>do loadVar t (← asAddr (a.tmps.getD p undef)):Sem Value)).run P w=.ok u w∧VRel θ v u:=by
 cases x with
 |tmp t=>
  cases y with
  |cell _ _=>simp [okR] at ok
  |t n=>
   simp only [okR] at ok
   have e:=beq_true.1 ok;subst e
   simp only [ares] at h
   split at h
   ·rename_i u hu
    cases q:u.islp with
    |true=>simp [q] at h
    |false=>
     simp [q] at h;subst h
     exact ⟨_,rfl,(R.t.tmp t u hu).val q⟩
   ·cases h
 |cell p ty=>
  cases y with
  |t n=>simp [okR] at ok
  |cell n sz=>
   simp only [okR,Bool.and_eq_true,decide_eq_true_eq] at ok
   obtain ⟨e,hs⟩:=ok
   have e:=beq_true.1 e;subst e
   simp only [ares] at h
   split at h
   ·rename_i q off hv
    split at h
    ·rename_i cs hl
     obtain ⟨b,hb,hu⟩:=lp_of (R.t.tmp p _ hv)
     obtain ⟨b',arr,ty',g1,g2,g3,g4⟩:=R.m.loc q cs hl
     rw [hb] at g1;cases g1
     obtain ⟨u,hu1,hu2⟩:=loadVar_run (P:=P) (w:=w) (b:=b) (o:=0) hs h (fun i x hx=>by
      obtain ⟨u,hu,hr⟩:=g4.get hx
      exact ⟨u,by simp only [World.cell?,g3,Nat.zero_add];simpa using hu,hr⟩)
     rw [Nat.zero_add] at hu1
     exact ⟨u,by simp [hu,asAddr,hu1],hu2⟩
    ·cases h
   ·rename_i id off hv
    split at h
    ·rename_i x' hl
     have hx:=(R.t.tmp p _ hv).val rfl
     simp only [VRel] at hx
     obtain ⟨b,o',c,he,hu⟩:=hx
     obtain ⟨b',o'',c',g1,g0,g2⟩:=R.m.hp id x' hl
     rw [he] at g1;cases g1
     obtain ⟨u,hu1,hu2⟩:=loadVar_run (P:=P) (w:=w) (b:=b) (o:=o') hs h (fun i x hx=>g2.at P hx)
     exact ⟨u,by simp [hu,asAddr,hu1],hu2⟩
    ·cases h
   ·cases h
theorem aress_run {P:Program}{C:Cx}{θ:Th}{σ:Nat→Option Nat}{s:AS}{a:Act}{w:World}{N:Nat}(R:Rep P C θ σ s.fs a w):∀ (l:List ResultVar) (l':List AR) (vs:List AV),okRs P N l l'=true→aress s l'=some vs→
  ∃ us:List Value,(l.mapM (fun x=>(match x with
   | .tmp t=>pure (a.tmps.getD t undef)
   | .cell p t=>do loadVar t (← asAddr (a.tmps.getD p undef)):Sem Value))).run P w=.ok us w∧VRels θ vs us
 | [],[],vs,_,h=>by
  simp only [aress,Option.some.injEq] at h;subst h
  exact ⟨[],by simp,by simp [VRels]⟩
 |x::l,y::l',vs,ok,h=>by
  simp only [okRs,Bool.and_eq_true] at ok
  simp only [aress] at h
  split at h
  ·rename_i v hv
   split at h
   ·rename_i vs' hvs
    simp only [Option.some.injEq] at h;subst h
    obtain ⟨u,u1,u2⟩:=ares_run R ok.1 hv
    obtain ⟨us,g1,g2⟩:=aress_run R l l' vs' ok.2 hvs
    refine ⟨u::us,?_,by simp only [VRels];exact ⟨u,us,rfl,u2,g2⟩⟩
    simp only [List.mapM_cons,Sem.run_bind,u1,Result.andThen_ok,g1,Sem.run_pure]
   ·cases h
  ·cases h
 | [],_::_,_,ok,_=>by simp [okRs] at ok
 |_::_,[],_,ok,_=>by simp [okRs] at ok
theorem results_run {P:Program}{C:Cx}{θ:Th}{σ:Nat→Option Nat}{s:AS}{a:Act}{w:World}{N:Nat}{fn:Func}{res:List AR}{v:AV}{h':AHeap}{n':Nat}(R:Rep P C θ σ s.fs a w)(ok:okRs P N fn.results.toList res=true)
  (h:outOf res s=some (v,h',n')):∃ u,(results fn a.tmps).run P w=.ok u w∧VRel θ v u∧s.h=h'∧s.n=n':=by
 unfold outOf at h
 have main:∀ vs,aress s res=some vs→∃ us:List Value,(results fn a.tmps).run P w=.ok (if h:us.toArray.size=1 then us.toArray[0] else .tuple us.toArray) w∧VRels θ vs us:=fun vs hvs=>by
  obtain ⟨us,g1,g2⟩:=aress_run R fn.results.toList res vs ok hvs
  refine ⟨us,?_,g2⟩
  unfold results
  rw [Array.mapM_eq_mapM_toList]
  simp only [Sem.run_bind,map_eq_pure_bind]
  erw [g1]
  rfl
 split at h
 ·rename_i v0 hv
  simp only [Option.some.injEq,Prod.mk.injEq] at h
  obtain ⟨rfl,rfl,rfl⟩:=h
  obtain ⟨us,g1,g2⟩:=main _ hv
  simp only [VRels] at g2
  obtain ⟨u,us',rfl,g2,rfl⟩:=g2
  exact ⟨u,by simpa using g1,g2,rfl,rfl⟩
 ·rename_i vs hne hvs
  simp only [Option.some.injEq,Prod.mk.injEq] at h
  obtain ⟨rfl,rfl,rfl⟩:=h
  obtain ⟨us,g1,g2⟩:=main _ hvs
  have hl:=g2.length
  have:¬ us.toArray.size=1:=fun e=>by
   simp at e
   rw [e] at hl
   match vs,hl with
   | [x],_=>exact hne x rfl
  rw [dif_neg this] at g1
  exact ⟨_,g1,by simp only [VRel];exact ⟨_,rfl,by simpa using g2⟩,rfl,rfl⟩
 ·cases h
theorem evFn_sound {P:Program}{ng:Nat}{O:Orc}{F g fl n n':Nat}{fn:Func}{f:AFn}{args:List AV}{h h':AHeap}{v:AV}(hP:P.follows .mixedOrders=true)(hO:OSound P ng O)(hg:P.funcs[g]? = some fn)(ok:okFn P ng fn f=true)(hng:f.body.nog=true)
  (he:evFn O fl F f args h n=some (v,h',n')) (hb:HB h n) {θ:Th} {w:World} {cargs:Array Value} (hm:Mem P ng θ h w) (ha:VRels θ args cargs.toList) (hf:Free θ n n') :
  Calls P g cargs w (Did P ng h n fl θ w v (some (h',n'))):=by
 simp only [okFn,Bool.and_eq_true] at ok
 obtain ⟨⟨⟨⟨o1,o2⟩,o3⟩,o4⟩,o5⟩:=ok
 split at o5
 ·rename_i c hc
  have o2:=beq_true.1 o2
  have o3:=Nat.le_of_ble_eq_true o3
  unfold evFn at he
  cases hq:Nat.beq args.length f.nargs with
  |false=>simp [hq] at he
  |true=>
   rw [hq,cond_true] at he
   have hq:=beq_true.1 hq
   have hl:=ha.length
   simp at hl
   refine calls_of_wp hg hc ?_
   have R0:Rep P (cx w h fl ng θ f.ntmps) θ (fun _=>none) (AS.fs ⟨argsFr 0 args,[],h,n,n⟩) { tmps:=cargs++Array.replicate (fn.ntmps-cargs.size) undef,defers:=[] } w:=by
    refine ⟨?_,⟨?_,rfl,fun t u hu=>?_,fun t s off hu=>?_⟩⟩
    ·have:=hm.rep fl f.ntmps (fun _=>none)
     exact ⟨this.glob,this.fin,fun s cs e=>by simp [AS.fs,lget_nil,lget_cns] at e,fun s s' cs cs' e=>by simp [AS.fs,lget_nil,lget_cns] at e,this.hp,fun s cs id x b o c e=>by simp [AS.fs,lget_nil,lget_cns] at e,this.dhh,this.ownok,this.bok,this.chg,this.fzc,fun s cs b o u e=>by simp [AS.fs,lget_nil,lget_cns] at e,this.fzh,this.fzn⟩
    ·simp [cx,o2];omega
    ·obtain ⟨h1,h2⟩:=argsFr_get 0 args t u hu
     simp at h2
     obtain ⟨y,hy,hr⟩:=ha.get h2
     have hlt:t<cargs.size:=by
      have:=(List.getElem?_eq_some_iff.1 hy).1;simpa using this
     refine TRel.of ?_
     have:(cargs++Array.replicate (fn.ntmps-cargs.size) undef).getD t undef=y:=by
      simp only [Array.getD_eq_getD_getElem?,Array.getElem?_append_left hlt]
      simp at hy
      rw [hy];rfl
     rw [this];exact hr
    ·obtain ⟨h1,h2⟩:=argsFr_get 0 args t _ hu
     simp at h2
     obtain ⟨y,hy,hr⟩:=ha.get h2
     simp [VRel] at hr
   refine evC_sound (C:=cx w h fl ng θ f.ntmps) (θ0:=θ) (n0:=n) (nf:=n') (r:=(v,h',n')) hP hO f.body c ⟨argsFr 0 args,[],h,n,n⟩ _ w _ _ o5 hng ⟨⟨θ,fun _=>none,R0,Th.ext_refl _ _ _,hf⟩,hb,Nat.le_refl _⟩ (fun e s' hb' h1=>?_) (fun e s' a' w' h1 g'=>?_) he
   ·have:outOf f.res s'=some (v,h',n'):=by
     cases e<;>first|exact h1|cases h1
    unfold outOf at this
    split at this<;>first|(simp only [Option.some.injEq,Prod.mk.injEq] at this;omega)|cases this
   ·have h2:outOf f.res s'=some (v,h',n'):=by
     cases e<;>first|exact h1|cases h1
    obtain ⟨⟨θ',σ',R',hx,hf'⟩,hb',hle⟩:=g'
    obtain ⟨u,u1,u2,u3,u4⟩:=results_run R' o4 h2
    have post:a'.defers=[]∧∃ v1,(results fn a'.tmps).run P w'=.ok v1 w'∧Did P ng h n fl θ w v (some (h',n')) (.returned v1) w':=by
     refine ⟨R'.t.defers,u,u1,u,rfl,θ',by rw [← u4];exact hx,u2,?_⟩
     rw [← u3]
     exact ⟨R'.m.glob,R'.m.fin,fun s cs e=>by simp [F0] at e,fun s s' cs cs' e=>by simp [F0] at e,R'.m.hp,fun s cs id x b o c e=>by simp [F0] at e,R'.m.dhh,R'.m.ownok,R'.m.bok,R'.m.chg,R'.m.fzc,fun s cs b o u e=>by simp [F0] at e,R'.m.fzh,R'.m.fzn⟩
    cases e with
    |nrm=>exact post
    |ret=>exact post
    |ex id=>cases h1
 ·cases o5
theorem OSound.evO {P:Program}{ng:Nat}{O:Orc}{fs:Nat→Option AFn}{F:Nat}(hP:P.follows .mixedOrders=true)(hO:OSound P ng O)(hfs:∀ g f,fs g=some f→f.body.nog=true∧∃ fn,P.funcs[g]? = some fn∧okFn P ng fn f=true) :
  OSound P ng (Ab.evO O fs F):=fun g args h n fl v r he=>by
 unfold Ab.evO at he
 split at he
 ·rename_i f hf
  obtain ⟨hng,fn,hg,ok⟩:=hfs g f hf
  split at he
  ·rename_i v1 h1 n1 he1
   simp only [Option.some.injEq,Prod.mk.injEq] at he
   obtain ⟨rfl,rfl⟩:=he
   refine ⟨?_,fun hb=>⟨evFn_heir hO.heir hng hb he1,fun θ w cargs hm ha hf=>evFn_sound hP hO hg ok hng he1 hb hm ha hf⟩⟩
   simp only [okFn,Bool.and_eq_true] at ok
   obtain ⟨⟨⟨⟨o1,o2⟩,o3⟩,o4⟩,o5⟩:=ok
   split at o5
   ·rename_i c hc
    exact ⟨fn,c,hg,hc,by simpa using o1⟩
   ·cases o5
  ·cases he
 ·exact hO g args h n fl v r he
theorem OSound.evD {P:Program}{ng:Nat}{O:Orc}{fs:Nat→Option AFn}{F:Nat}(hP:P.follows .mixedOrders=true)(hO:OSound P ng O)(hfs:∀ g f,fs g=some f→f.body.nog=true∧∃ fn,P.funcs[g]? = some fn∧okFn P ng fn f=true) :
  ∀ d,OSound P ng (Ab.evD O fs F d)
 |0=>hO
 |d+1=>(OSound.evD hP hO hfs d).evO hP hfs
def Orc.no:Orc:=fun _ _ _ _ _=>none
theorem OSound.no {P:Program}{ng:Nat}:OSound P ng Orc.no:=fun g args h n fl v r he=>by cases he
end Go.Proofs.YtchgkmdonhdfeaaGreatDoor.Ab
/- For evaluating with unknowns: words as bit vectors, whole numbers that stay in their kind, operands, reads. No condition: lemmas only. -/
set_option linter.unusedVariables false
set_option linter.unusedSimpArgs false
namespace Go.Proofs.YtchgkmdonhdfeaaGreatDoor.Ab
open Go
def U (x:BitVec 64):Int:=x.toNat
theorem U_inj {a b:BitVec 64}:U a=U b↔a=b:=by
 unfold U
 constructor
 ·intro h;exact BitVec.eq_of_toNat_eq (by omega)
 ·intro h;rw [h]
theorem U_lt (a:BitVec 64):0≤U a∧U a<18446744073709551616:=by
 unfold U;have:=a.isLt;omega
theorem wrap_u (x:Int):IntKind.u64.wrap x=U (BitVec.ofInt 64 x):=by
 have h:(2:Int) ^ IntKind.u64.bits=18446744073709551616:=by decide
 simp only [IntKind.wrap,h,IntKind.signed,Bool.false_and,Bool.false_eq_true,if_false,U,BitVec.toNat_ofInt]
 omega
theorem wrap_of {x:Int}(h:-9223372036854775808≤x∧x<9223372036854775808):IntKind.i64.wrap x=x:=by
 have e:(2:Int) ^ IntKind.i64.bits=18446744073709551616:=by decide
 have e2:(2:Int) ^ (IntKind.i64.bits-1)=9223372036854775808:=by decide
 simp only [IntKind.wrap,e,e2,IntKind.signed,Bool.true_and,decide_eq_true_eq]
 split<;>omega
theorem wrap_i (x:Int):IntKind.i64.wrap x=(BitVec.ofInt 64 x).toInt:=by
 have e:(2:Int) ^ IntKind.i64.bits=18446744073709551616:=by decide
 have e2:(2:Int) ^ (IntKind.i64.bits-1)=9223372036854775808:=by decide
 simp only [IntKind.wrap,e,e2,IntKind.signed,Bool.true_and,decide_eq_true_eq,BitVec.toInt_ofInt]
 rw [Int.bmod_def]
 simp only [Nat.reducePow]
 split<;>split<;>omega
theorem wrap_iU (x:BitVec 64):IntKind.i64.wrap (U x)=x.toInt:=by
 rw [wrap_i]
 congr 1
 unfold U
 simp
theorem bits64:IntKind.u64.bits=64:=rfl
theorem Umod (a:BitVec 64):(U a % 2 ^ IntKind.u64.bits).toNat=a.toNat:=by
 have e:(2:Int) ^ IntKind.u64.bits=18446744073709551616:=by decide
 rw [e];unfold U;have:=a.isLt;omega
theorem bit_and (a b:BitVec 64):bitop .and .u64 (U a) (U b)=U (a &&& b):=by
 simp only [bitop,Umod,wrap_u]
 congr 1
 apply BitVec.eq_of_toNat_eq
 rw [BitVec.toNat_ofInt,BitVec.toNat_and]
 have h:=(a &&& b).isLt
 rw [BitVec.toNat_and] at h
 simp only [Nat.reducePow] at h ⊢
 omega
theorem bit_or (a b:BitVec 64):bitop .or .u64 (U a) (U b)=U (a ||| b):=by
 simp only [bitop,Umod,wrap_u]
 congr 1
 apply BitVec.eq_of_toNat_eq
 rw [BitVec.toNat_ofInt,BitVec.toNat_or]
 have h:=(a ||| b).isLt
 rw [BitVec.toNat_or] at h
 simp only [Nat.reducePow] at h ⊢
 omega
theorem bit_xor (a b:BitVec 64):bitop .xor .u64 (U a) (U b)=U (a ^^^ b):=by
 simp only [bitop,Umod,wrap_u]
 congr 1
 apply BitVec.eq_of_toNat_eq
 rw [BitVec.toNat_ofInt,BitVec.toNat_xor]
 have h:=(a ^^^ b).isLt
 rw [BitVec.toNat_xor] at h
 simp only [Nat.reducePow] at h ⊢
 omega
theorem bit_andNot (a b:BitVec 64):bitop .andNot .u64 (U a) (U b)=U (a &&& ~~~b):=by
 simp only [bitop,Umod,wrap_u]
 congr 1
 apply BitVec.eq_of_toNat_eq
 rw [BitVec.toNat_ofInt,BitVec.toNat_and,BitVec.toNat_not]
 have h:=(a &&& ~~~b).isLt
 rw [BitVec.toNat_and,BitVec.toNat_not] at h
 simp only [bits64,Nat.reducePow] at h ⊢
 omega
theorem bin_and_u {a b:BitVec 64}:abin .and (.i .u64 (U a)) (.i .u64 (U b))=some (.i .u64 (U (a &&& b))):=by
 show some (AV.i .u64 (bitop .and .u64 (U a) (U b)))=_;rw [bit_and]
theorem bin_or_u {a b:BitVec 64}:abin .or (.i .u64 (U a)) (.i .u64 (U b))=some (.i .u64 (U (a ||| b))):=by
 show some (AV.i .u64 (bitop .or .u64 (U a) (U b)))=_;rw [bit_or]
theorem bin_xor_u {a b:BitVec 64}:abin .xor (.i .u64 (U a)) (.i .u64 (U b))=some (.i .u64 (U (a ^^^ b))):=by
 show some (AV.i .u64 (bitop .xor .u64 (U a) (U b)))=_;rw [bit_xor]
theorem bin_andNot_u {a b:BitVec 64}:abin .andNot (.i .u64 (U a)) (.i .u64 (U b))=some (.i .u64 (U (a &&& ~~~b))):=by
 show some (AV.i .u64 (bitop .andNot .u64 (U a) (U b)))=_;rw [bit_andNot]
theorem ofInt_U (a:BitVec 64):BitVec.ofInt 64 (U a)=a:=by unfold U;simp
theorem bin_add_u {a b:BitVec 64}:abin .add (.i .u64 (U a)) (.i .u64 (U b))=some (.i .u64 (U (a+b))):=by
 show some (AV.i .u64 (IntKind.u64.wrap (U a+U b)))=_
 rw [wrap_u,BitVec.ofInt_add,ofInt_U,ofInt_U]
theorem bin_sub_u {a b:BitVec 64}:abin .sub (.i .u64 (U a)) (.i .u64 (U b))=some (.i .u64 (U (a-b))):=by
 show some (AV.i .u64 (IntKind.u64.wrap (U a-U b)))=_
 rw [wrap_u]
 congr 3
 apply BitVec.eq_of_toNat_eq
 rw [BitVec.toNat_ofInt,BitVec.toNat_sub]
 unfold U
 have:=a.isLt;have:=b.isLt
 omega
theorem bin_eql_u {a b:BitVec 64}:abin .eql (.i .u64 (U a)) (.i .u64 (U b))=some (.b (decide (a=b))):=by
 show some (AV.b (U a==U b))=_
 congr 2
 rw [Bool.eq_iff_iff]
 simp [U_inj]
theorem bin_neq_u {a b:BitVec 64}:abin .neq (.i .u64 (U a)) (.i .u64 (U b))=some (.b (decide (a≠b))):=by
 show some (AV.b (U a != U b))=_
 congr 2
 rw [Bool.eq_iff_iff]
 simp [U_inj,bne_iff_ne]
theorem bin_gtr0_u {a:BitVec 64}:abin .gtr (.i .u64 (U a)) (.i .u64 (U 0#64))=some (.b (decide (a≠0#64))):=by
 show some (AV.b (decide (U a>U 0#64)))=_
 congr 2
 rw [Bool.eq_iff_iff]
 simp only [decide_eq_true_eq]
 have h0:U 0#64=0:=rfl
 rw [h0]
 constructor
 ·intro h e;rw [e,h0] at h;omega
 ·intro h
  have:=(U_lt a).1
  rcases Int.lt_or_eq_of_le this with q|q
  ·exact q
  ·exact absurd (U_inj.1 (by rw [h0,← q])) h
theorem bin_shr_u {k:IntKind}{a:BitVec 64}{y:Int}(h:0≤y):abin .shr (.i .u64 (U a)) (.i k y)=some (.i .u64 (U (a >>> y.toNat))):=by
 show (if y<0 then none else some (AV.i .u64 ((U a).fdiv (2 ^ (min y.toNat 64)))))=_
 rw [if_neg (by omega)]
 congr 2
 unfold U
 have e:((a.toNat:Int)).fdiv (2 ^ (min y.toNat 64))=((a.toNat / 2 ^ (min y.toNat 64):Nat):Int):=by
  rw [Int.fdiv_eq_ediv_of_nonneg _ (by exact_mod_cast Nat.zero_le _)]
  push_cast;rfl
 rw [e]
 congr 1
 rw [BitVec.toNat_ushiftRight,Nat.shiftRight_eq_div_pow]
 rcases Nat.le_total y.toNat 64 with q|q
 ·rw [Nat.min_eq_left q]
 ·rw [Nat.min_eq_right q,Nat.div_eq_of_lt a.isLt,Nat.div_eq_of_lt]
  exact Nat.lt_of_lt_of_le a.isLt (Nat.pow_le_pow_right (by omega) q)
theorem bin_shl_u {k:IntKind}{a:BitVec 64}{y:Int}(h:0≤y):abin .shl (.i .u64 (U a)) (.i k y)=some (.i .u64 (U (a <<< y.toNat))):=by
 show (if y<0 then none else some (AV.i .u64 (IntKind.u64.wrap (U a*2 ^ (min y.toNat 64)))))=_
 rw [if_neg (by omega),wrap_u]
 congr 3
 apply BitVec.eq_of_toNat_eq
 have e:U a*2 ^ (min y.toNat 64)=((a.toNat*2 ^ (min y.toNat 64):Nat):Int):=by unfold U;push_cast;rfl
 rw [e,BitVec.ofInt_natCast,BitVec.toNat_ofNat,BitVec.toNat_shiftLeft,Nat.shiftLeft_eq]
 rcases Nat.le_total y.toNat 64 with q|q
 ·rw [Nat.min_eq_left q]
 ·rw [Nat.min_eq_right q,Nat.mul_mod_left]
  obtain ⟨d,hd⟩:=Nat.exists_eq_add_of_le q
  rw [hd,Nat.pow_add,← Nat.mul_assoc,Nat.mul_right_comm,Nat.mul_mod_left]
theorem bin_add {x y:Int}:abin .add (.i .i64 x) (.i .i64 y)=some (.i .i64 (IntKind.i64.wrap (x+y))):=id rfl
theorem bin_sub {x y:Int}:abin .sub (.i .i64 x) (.i .i64 y)=some (.i .i64 (IntKind.i64.wrap (x-y))):=id rfl
theorem bin_mul {x y:Int}:abin .mul (.i .i64 x) (.i .i64 y)=some (.i .i64 (IntKind.i64.wrap (x*y))):=id rfl
theorem bin_quo {x y:Int}:abin .quo (.i .i64 x) (.i .i64 y)=if y=0 then none else some (.i .i64 (IntKind.i64.wrap (x.tdiv y))):=id rfl
theorem bin_rem {x y:Int}:abin .rem (.i .i64 x) (.i .i64 y)=if y=0 then none else some (.i .i64 (x.tmod y)):=id rfl
theorem bin_eql {x y:Int}:abin .eql (.i .i64 x) (.i .i64 y)=some (.b (decide (x=y))):=by
 show some (AV.b (x==y))=_;congr 2
theorem bin_neq {x y:Int}:abin .neq (.i .i64 x) (.i .i64 y)=some (.b (decide (x≠y))):=by
 show some (AV.b (x != y))=_
 congr 2
 rw [Bool.eq_iff_iff];simp
theorem bin_lss {x y:Int}:abin .lss (.i .i64 x) (.i .i64 y)=some (.b (decide (x<y))):=rfl
theorem bin_leq {x y:Int}:abin .leq (.i .i64 x) (.i .i64 y)=some (.b (decide (x≤y))):=rfl
theorem bin_gtr {x y:Int}:abin .gtr (.i .i64 x) (.i .i64 y)=some (.b (decide (x>y))):=rfl
theorem bin_geq {x y:Int}:abin .geq (.i .i64 x) (.i .i64 y)=some (.b (decide (x≥y))):=rfl
theorem bin_eql8 {x y:Int}:abin .eql (.i .u8 x) (.i .u8 y)=some (.b (decide (x=y))):=by
 show some (AV.b (x==y))=_;congr 2
theorem un_not {x:Bool}:aun .not (.b x)=some (.b (!x)):=rfl
theorem un_neg {x:Int}:aun .neg (.i .i64 x)=some (.i .i64 (IntKind.i64.wrap (0-x))):=rfl
theorem xv_t {fr:List (Nat×AV)}{t:Nat}:xv fr (.t t)=fget fr t:=rfl
theorem xv_k {fr:List (Nat×AV)}{v:AV}:xv fr (.k v)=some v:=rfl
theorem xn_t {fr:List (Nat×AV)}{t:Nat}:xn fr (.t t)=match fget fr t with|some v=>(bif v.islp then none else some v)|none=>none:=rfl
theorem xn_k {fr:List (Nat×AV)}{v:AV}:xn fr (.k v)=bif v.islp then none else some v:=rfl
theorem xn_ku {fr:List (Nat×AV)}{m:Nat}(h:m<18446744073709551616):xn fr (.k (.i .u64 (OfNat.ofNat m)))=some (.i .u64 (U (BitVec.ofNat 64 m))):=by
 show some (AV.i .u64 (OfNat.ofNat m))=_
 congr 2
 unfold U
 rw [BitVec.toNat_ofNat]
 have:m % 2 ^ 64=m:=Nat.mod_eq_of_lt (by simpa using h)
 rw [this];rfl
theorem xn_ki {fr:List (Nat×AV)}{m:Int}:xn fr (.k (.i .i64 m))=some (.i .i64 m):=rfl
theorem xn_ki8 {fr:List (Nat×AV)}{m:Int}:xn fr (.k (.i .u8 m))=some (.i .u8 m):=rfl
theorem xn_kb {fr:List (Nat×AV)}{m:Bool}:xn fr (.k (.b m))=some (.b m):=rfl
theorem xn_ks {fr:List (Nat×AV)}{m:ByteArray}:xn fr (.k (.s m))=some (.s m):=rfl
theorem xn_ksl {fr:List (Nat×AV)}{a:Option (Nat×Nat)}{n:Nat}{c:ACap}:xn fr (.k (.sl a n c))=some (.sl a n c):=rfl
theorem xn_kp {fr:List (Nat×AV)}{a:Option (Nat×Nat)}:xn fr (.k (.p a))=some (.p a):=rfl
theorem xn_kfn {fr:List (Nat×AV)}{f:Fn}{x y:List AV}:xn fr (.k (.fn f x y))=some (.fn f x y):=rfl
theorem xn_k1 {fr:List (Nat×AV)}:xn fr (.k (.i .u64 1))=some (.i .u64 (U 1#64)):=rfl
theorem xn_k0 {fr:List (Nat×AV)}:xn fr (.k (.i .u64 0))=some (.i .u64 (U 0#64)):=rfl
theorem islp_i {k:IntKind}{x:Int}:(AV.i k x).islp=false:=rfl
theorem islp_b {x:Bool}:(AV.b x).islp=false:=rfl
theorem islp_s {x:ByteArray}:(AV.s x).islp=false:=rfl
theorem islp_sl {a:Option (Nat×Nat)}{n:Nat}{c:ACap}:(AV.sl a n c).islp=false:=rfl
theorem islp_p {a:Option (Nat×Nat)}:(AV.p a).islp=false:=rfl
theorem islp_agg {x:List AV}:(AV.agg x).islp=false:=rfl
theorem islp_tup {x:List AV}:(AV.tup x).islp=false:=rfl
theorem islp_fn {f:Fn}{x y:List AV}:(AV.fn f x y).islp=false:=rfl
theorem nbeq_self (n:Nat):Nat.beq n n=true:=Nat.beq_refl n
theorem happly_nil {h:AHeap}:happly h []=h:=rfl
theorem hget_app {h:AHeap}{l:List (Nat×Option ABlk)}{id:Nat}:hget (happly h l) id=match hlook l id with|some b=>b|none=>hget h id:=hget_happly h l id
theorem nbeq_ne {a b:Nat}(h:a≠b):Nat.beq a b=false:=beq_false.2 h
theorem nble_le {a b:Nat}(h:a≤b):Nat.ble a b=true:=Nat.ble_eq_true_of_le h
theorem nblt_lt {a b:Nat}(h:a<b):Nat.blt a b=true:=by rw [Nat.blt_eq];exact h
theorem inb_lt {j:Int}{n:Nat}(h:0≤j∧j<n):inb j n=true:=by
 simp only [inb,Bool.and_eq_true,decide_eq_true_eq];exact h
theorem nbeq_dec (a b:Nat):Nat.beq a b=decide (a=b):=by
 by_cases h:a=b
 ·subst h;simp [Nat.beq_refl]
 ·rw [beq_false.2 h];simp [h]
theorem nble_dec (a b:Nat):Nat.ble a b=decide (a≤b):=by
 rw [Bool.eq_iff_iff,Nat.ble_eq];simp
theorem nblt_dec (a b:Nat):Nat.blt a b=decide (a<b):=by
 rw [Bool.eq_iff_iff,Nat.blt_eq];simp
theorem fdel_nil {t:Nat}:fdel [] t=[]:=rfl
theorem fdel_cons {k t:Nat}{v:AV}{r:List (Nat×AV)}:fdel ((k,v)::r) t=if k=t then fdel r t else (k,v)::fdel r t:=by
 simp only [fdel,nbeq_dec]
 by_cases h:k=t<;>simp [h]
theorem hlook_nil {t:Nat}:hlook [] t=none:=rfl
theorem hlook_cons {k t:Nat}{v:Option ABlk}{r:List (Nat×Option ABlk)}:hlook ((k,v)::r) t=if k=t then some v else hlook r t:=by
 simp only [hlook_nl,hlook_cns,nbeq_dec]
 by_cases h:k=t<;>simp [h]
theorem hhide_nil {h:AHeap}:hhide [] h=h:=by
 induction h with
 |nil=>rfl
 |cons p r ih=>
  obtain ⟨k,b⟩:=p
  show (bif List.elem k [] then hhide [] r else (k,b)::hhide [] r)=_
  rw [ih];rfl
theorem apart_one {c:AV}{cs:List AV}{off:Nat}:apart_ (c::cs) off none=(c::cs)[off]?:=id rfl
theorem apart_row {c:AV}{cs:List AV}{off n:Nat}:apart_ (c::cs) off (some n)=bif Nat.ble (off+n) (c::cs).length then some (.agg (((c::cs).drop off).take n)) else none:=id rfl
theorem evD_zero {O:Orc}{f:Nat→Option AFn}{F:Nat}:evD O f F 0=O:=rfl
theorem evD_succ {O:Orc}{f:Nat→Option AFn}{F d:Nat}:evD O f F (d+1)=evO (evD O f F d) f F:=rfl
noncomputable def stepOp (O:Orc) (fl:Nat) (d:Option Nat) (op:AOp) (s:AS):Option (Eff×Foot):=evOp O fl d op s fun e f=>some (e,f)
theorem evOp_step {ρ:Type}{O:Orc}{fl:Nat}{d:Option Nat}{op:AOp}{s:AS}{k:Eff→Foot→Option ρ}:evOp O fl d op s k=match stepOp O fl d op s with|some (e,f)=>k e f|none=>none:=by
 unfold stepOp
 cases op with
 |alloc lc ty z=>cases lc<;>simp only [EVO.down,evOp_apf,evOp_mlk,Bool.cond_eq_ite]<;>(repeat' split)<;>first|rfl|(simp_all;done)
 |box lc ty z=>cases lc<;>simp only [EVO.down,evOp_apf,evOp_mlk,Bool.cond_eq_ite]<;>(repeat' split)<;>first|rfl|(simp_all;done)
 |len b x=>cases b<;>simp only [EVO.down,evOp_apf,evOp_mlk,Bool.cond_eq_ite]<;>(repeat' split)<;>first|rfl|(simp_all;done)
 |_=>
  simp only [EVO.down,evOp_apf,evOp_mlk,Bool.cond_eq_ite]
  (repeat' split)<;>first|rfl|(simp_all;done)
inductive Fr where
 |seq (b:AC)
 |blk (id:Nat)
section
variable (O:Orc)(fl F:Nat)
noncomputable def kont:List Fr→(AE→AS→Option Res)→AE→AS→Option Res
 | [],k=>k
 | .seq b::st,k=>fun e s=>match e with
  | .nrm=>evC O fl F b s (kont st k)
  |e=>kont st k e s
 | .blk id::st,k=>fun e s=>match e with
  | .ex j=>bif Nat.beq j id then kont st k .nrm s else kont st k (.ex j) s
  |e=>kont st k e s
noncomputable def runC (c:AC) (s:AS) (st:List Fr) (k:AE→AS→Option Res):Option Res:=evC O fl F c s (kont O fl F st k)
noncomputable def runO (l:List AOper) (s:AS) (st:List Fr) (k:AE→AS→Option Res):Option Res:=evOps O fl l s (kont O fl F st k .nrm)
noncomputable def runD (j:Nat) (l:List AOper) (s:AS) (rs:List Rec) (st:List Fr) (k:AE→AS→Option Res):Option Res:=evDraw O fl j l s rs (kont O fl F st k .nrm)
noncomputable def retK (e:AE) (s:AS) (st:List Fr) (k:AE→AS→Option Res):Option Res:=kont O fl F st k e s
end
noncomputable def lk (O:Orc) (fl F:Nat) (a:AC) (f:Nat) (K:AE→AS→Option Res):AE→AS→Option Res:=fun e s'=>match e with
 | .nrm=>evLoop (evC O fl F a) f s' K
 |e=>K e s'
theorem lk_nrm {O:Orc}{fl F:Nat}{a:AC}{f:Nat}{K:AE→AS→Option Res}{s:AS}:lk O fl F a f K .nrm s=evLoop (evC O fl F a) f s K:=rfl
theorem lk_ex {O:Orc}{fl F:Nat}{a:AC}{f id:Nat}{K:AE→AS→Option Res}{s:AS}:lk O fl F a f K (.ex id) s=K (.ex id) s:=rfl
theorem lk_ret {O:Orc}{fl F:Nat}{a:AC}{f:Nat}{K:AE→AS→Option Res}{s:AS}:lk O fl F a f K .ret s=K .ret s:=rfl
theorem loop_succ {O:Orc}{fl F:Nat}{a:AC}{f:Nat}{K:AE→AS→Option Res}{s:AS}:evLoop (evC O fl F a) (f+1) s K=runC O fl F a s [] (lk O fl F a f K):=rfl
theorem runC_loop {O:Orc}{fl F:Nat}{a:AC}{st:List Fr}{k:AE→AS→Option Res}{s:AS}:runC O fl F (.loop a) s st k=evLoop (evC O fl F a) F s (kont O fl F st k):=rfl
theorem kont_ret {O:Orc}{fl F:Nat}{e:AE}{st:List Fr}{k:AE→AS→Option Res}{s:AS}:kont O fl F st k e s=retK O fl F e s st k:=rfl
noncomputable def gd (fr:List (Nat×AV)):Option (Nat×Bool)→Option Bool
 |none=>some true
 |some (t,w)=>match fget fr t with
  |some (.b b)=>some (bif w then b else !b)
  |some (.tup [])=>some false
  |_=>none
section
variable {O:Orc}{fl F:Nat}{s:AS}{st:List Fr}{k:AE→AS→Option Res}
theorem run_of {c:AC}:evC O fl F c s k=runC O fl F c s [] k:=rfl
theorem runC_skip:runC O fl F .skip s st k=retK O fl F .nrm s st k:=rfl
theorem runC_ret:runC O fl F .ret s st k=retK O fl F .ret s st k:=rfl
theorem runC_exit {id:Nat}:runC O fl F (.exit id) s st k=retK O fl F (.ex id) s st k:=rfl
theorem runC_seq {a b:AC}:runC O fl F (.seq a b) s st k=runC O fl F a s (.seq b::st) k:=rfl
theorem runC_blk {id:Nat}{a:AC}:runC O fl F (.blk id a) s st k=runC O fl F a s (.blk id::st) k:=rfl
theorem runC_reg {l:List AOper}:runC O fl F (.reg false l) s st k=runO O fl F l s st k:=rfl
theorem runC_draw {l:List AOper}:runC O fl F (.reg true l) s st k=runD O fl F 0 l s [] st k:=rfl
theorem runC_ite {c:AX}{a b:AC}:runC O fl F (.ite c a b) s st k=match xn s.fr c with
  |some (.b true)=>runC O fl F a s st k
  |some (.b false)=>runC O fl F b s st k
  |_=>none:=rfl
theorem runC_cut {ts ls:List Nat}{a:AC}:runC O fl F (.cut ts ls a) s st k=match s.keep ts ls with
  |some s'=>runC O fl F a s' st k
  |none=>none:=rfl
theorem retK_nil {e:AE}:retK O fl F e s [] k=k e s:=rfl
theorem retK_seq {b:AC}:retK O fl F .nrm s (.seq b::st) k=runC O fl F b s st k:=rfl
theorem retK_seq_ex {b:AC}{id:Nat}:retK O fl F (.ex id) s (.seq b::st) k=retK O fl F (.ex id) s st k:=rfl
theorem retK_seq_ret {b:AC}:retK O fl F .ret s (.seq b::st) k=retK O fl F .ret s st k:=rfl
theorem retK_blk {id:Nat}:retK O fl F .nrm s (.blk id::st) k=retK O fl F .nrm s st k:=rfl
theorem retK_blk_ret {id:Nat}:retK O fl F .ret s (.blk id::st) k=retK O fl F .ret s st k:=rfl
theorem retK_blk_ex {id j:Nat}:retK O fl F (.ex j) s (.blk id::st) k=if j=id then retK O fl F .nrm s st k else retK O fl F (.ex j) s st k:=by
 show (bif Nat.beq j id then _ else _)=_
 rw [nbeq_dec]
 by_cases h:j=id<;>simp [h,retK]
theorem runO_nil:runO O fl F [] s st k=retK O fl F .nrm s st k:=rfl
theorem runO_cons {o:AOper}{r:List AOper}:runO O fl F (o::r) s st k=match gd s.fr o.guard with
  |some true=>(match stepOp O fl o.dst o.op s with
   |some (e,_)=>runO O fl F r (s.put o.dst e) st k
   |none=>none)
  |some false=>runO O fl F r (s.undef o.dst) st k
  |none=>none:=by
 obtain ⟨d,g,op,bef⟩:=o
 unfold runO
 cases g with
 |none=>simp only [evOps,gd];rw [evOp_step]
 |some p=>
  obtain ⟨t,w⟩:=p
  simp only [evOps,gd]
  cases fget s.fr t with
  |none=>rfl
  |some v=>
   cases v<;>try rfl
   case tup l=>cases l<;>rfl
   rename_i b
   cases b<;>cases w<;>simp only [cond_true,cond_false,Bool.not_true,Bool.not_false]<;>first|rfl|rw [evOp_step]
theorem runD_nil {j:Nat}{rs:List Rec}:runD O fl F j [] s rs st k=retK O fl F .nrm s st k:=rfl
theorem runD_cons {j:Nat}{o:AOper}{r:List AOper}{rs:List Rec}:runD O fl F j (o::r) s rs st k=match gd s.fr o.guard with
  |some true=>(match stepOp O fl o.dst o.op { s with h:=hhide (hidden o.bef rs) s.h } with
   |some (e,f)=>(if (okAll j o.bef e.all r (hidden o.bef rs)&&apartAll o.bef ⟨j,f.hide s.n (hidden o.bef rs),o.dst,e⟩ rs)=true then runD O fl F (j+1) r (s.put o.dst e) (⟨j,f.hide s.n (hidden o.bef rs),o.dst,e⟩::rs) st k else none)
   |none=>none)
  |some false=>runD O fl F (j+1) r (s.undef o.dst) (⟨j,.no,o.dst,⟨some (.tup []),[],[],s.n,none⟩⟩::rs) st k
  |none=>none:=by
 obtain ⟨d,g,op,bef⟩:=o
 have key:(evOp O fl d op { s with h:=hhide (hidden bef rs) s.h } fun e f=>
    let x:Rec:=⟨j,f.hide s.n (hidden bef rs),d,e⟩
    bif okAll j bef e.all r (hidden bef rs)&&apartAll bef x rs then evDraw O fl (j+1) r (s.put d e) (x::rs) (kont O fl F st k .nrm) else none) =
   (match stepOp O fl d op { s with h:=hhide (hidden bef rs) s.h } with
   |some (e,f)=>(if (okAll j bef e.all r (hidden bef rs)&&apartAll bef ⟨j,f.hide s.n (hidden bef rs),d,e⟩ rs)=true then runD O fl F (j+1) r (s.put d e) (⟨j,f.hide s.n (hidden bef rs),d,e⟩::rs) st k else none)
   |none=>none):=by
  rw [evOp_step]
  cases stepOp O fl d op { s with h:=hhide (hidden bef rs) s.h } with
  |none=>rfl
  |some p=>
   obtain ⟨e,f⟩:=p
   simp only
   cases okAll j bef e.all r (hidden bef rs)&&apartAll bef ⟨j,f.hide s.n (hidden bef rs),d,e⟩ rs<;>rfl
 cases g with
 |none=>exact key
 |some p=>
  obtain ⟨t,w⟩:=p
  unfold runD
  simp only [evDraw,gd]
  cases fget s.fr t with
  |none=>rfl
  |some v=>
   cases v<;>try rfl
   case tup l=>cases l<;>rfl
   rename_i b
   cases b<;>cases w<;>simp only [cond_true,cond_false,Bool.not_true,Bool.not_false]<;>first|rfl|exact key
end
end Go.Proofs.YtchgkmdonhdfeaaGreatDoor.Ab
