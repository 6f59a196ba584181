/- The search for a byte, and what the package's own example comes to. -/
import Derived.Test.YtogkkamlmklpkaaDoorB1
import Derived.Test.YtogkkamlmklpkaaDoorAD
import Derived.WalkKit
import Derived.Lib.Walk
import Derived.Lib.Bytealg
set_option linter.unusedSimpArgs false
set_option linter.unusedVariables false
set_option maxRecDepth 100000
namespace Go.Proofs.YtogkkamlmklpkaaDoor.Ab
open Go
def fsL:List (Option AFn):=[none,none,none,none,none,some a5,none,none,none,none,none,some a11,none,some a13,some a14,some a15,some a16,none,some a18,some a19,some a20,some a21,some a22,some a23,some a24,some a25,none,none,none,none,none,none,none,none,none,none,none,none,none,some a39,some a40,some a41,some a42,some a43,some a44,some a45,some a46,some a47,some a48,some a49,some a50,some a51,some a52,some a53,none,some a55,some a56,some a57,some a58,some a59,some a60,none,none,none,none,none,none,none,none,none,none,none,none,none,none,none,some a76,some a77,some a78,some a79,some a80,some a81,some a82,some a83,some a84,some a85,some a86,some a87,some a88,none,none,none,none,none,none,none,none,some a97,some a98,some a99]
def fs (g:Nat):Option AFn:=match fsL[g]? with|some x=>x|none=>none
def tab64:ABlk:=⟨false,false,0,1,[.i .u8 0,.i .u8 1,.i .u8 56,.i .u8 2,.i .u8 57,.i .u8 49,.i .u8 28,.i .u8 3,.i .u8 61,.i .u8 58,.i .u8 42,.i .u8 50,.i .u8 38,.i .u8 29,.i .u8 17,.i .u8 4,.i .u8 62,.i .u8 47,.i .u8 59,.i .u8 36,.i .u8 45,.i .u8 43,.i .u8 51,.i .u8 22,.i .u8 53,.i .u8 39,.i .u8 33,.i .u8 30,.i .u8 24,.i .u8 18,.i .u8 12,.i .u8 5,.i .u8 63,.i .u8 55,.i .u8 48,.i .u8 27,.i .u8 60,.i .u8 41,.i .u8 37,.i .u8 16,.i .u8 46,.i .u8 35,.i .u8 44,.i .u8 21,.i .u8 52,.i .u8 32,.i .u8 23,.i .u8 11,.i .u8 54,.i .u8 26,.i .u8 40,.i .u8 15,.i .u8 34,.i .u8 20,.i .u8 31,.i .u8 10,.i .u8 25,.i .u8 14,.i .u8 19,.i .u8 9,.i .u8 13,.i .u8 8,.i .u8 7,.i .u8 6]⟩
def cloneW (ty esz bys:Nat)(len:Nat)(cs:List AV)(n fl:Nat):Option (AV×Option (AHeap×Nat)):=
 bif Nat.beq cs.length (len*esz)&&cs.all AV.one&&cs.all AV.flat1&&AV.nors cs&&Nat.ble (len*bys) 140737488355328 then
  bif Nat.beq fl (n+1) then some (.vs len .unk cs,none)
  else bif Nat.beq fl n then (bif Nat.beq len 0 then some (.vs 0 .unk [],none) else some (.sl (some (n,0)) len .op,some ([(n,⟨true,true,ty,esz,cs⟩)],n+1)))
  else none
 else none
def O0:Orc:=fun g args h n fl=>match g,args with
 |107,[.s s,.i .u8 c]=>some (.i .i64 (Lib.indexByte s.data.toList c.toNat.toUInt8),none)
 |54,[.vs len _ cs]=>cloneW 39 4 32 len cs n fl
 |_,_=>none
theorem callIB (s:ByteArray)(c:Int)(w:World) :
  Calls Tryd.prog 107 #[.string s,.int .u8 c] w fun e w'=>e=.returned (.int .i64 (Lib.indexByte s.data.toList c.toNat.toUInt8))∧w'=w:=by
 go_enter Tryd.func107,Tryd.ntmps107
 go_wp2
 rw [run_callFunc_extern Tryd.func108 (by kernel_rfl) (by kernel_rfl) (by kernel_rfl) (e:=Extern.BytealgIndexByte.indexByte) (by kernel_rfl),Lib.run_indexByteString]
 simp only [Result.andThen]
 rw [Oper.upon_value]
 go_wp2
 go_ret
 exact ⟨rfl,rfl⟩
def fsC (g:Nat):Option AFn:=if g=54 then some a54 else none
theorem fsC_ok (g:Nat)(f:AFn)(h:fsC g=some f):∃ fn,Tryd.prog.funcs[g]? = some fn∧okFn Tryd.prog 2 fn f=true:=by
 unfold fsC at h
 split at h
 ·rename_i e;subst e;cases h;exact ⟨_,Tryd.func54,ok54⟩
 ·cases h
def Emp (u:Value):Prop:=∃ q c,u=.slice q 0 c∧(q=none→c=0)∧∀ p,q=some p→0<c→p.spot=none
theorem Emp.rel {u:Value}(h:Emp u)(θ:Th):VRel θ (.vs 0 .unk []) u:=by
 obtain ⟨q,c,hu,h0,h1⟩:=h
 simp only [VRel]
 cases q with
 |none=>exact .inr ⟨by rw [hu,h0 rfl],trivial,trivial,trivial⟩
 |some p=>
  exact .inl ⟨p.block,p.off,p.spot,c,[],hu,h1 p rfl,Nat.zero_le _,trivial,fun i u e=>by simp at e,rfl,by simp [VRels]⟩
theorem empty_mem {θ:Th}{w:World}{h:AHeap}(m:Mem Tryd.prog 2 θ h w)(t:Option (Nat×Nat×Nat)):Mem Tryd.prog 2 ⟨fun id=>if id<2 then θ id else if id=2 then t else none,θ.fz⟩ [] w:=
 ⟨fun g hg=>by simp only [if_pos hg];exact m.glob g hg,⟨2+1,fun id hid=>by simp only;rw [if_neg (by omega),if_neg (by omega)]⟩,fun id x e=>by simp [hget_nil] at e,fun id id' x x' b o c o' c' e=>by simp [hget_nil] at e,m.fzc,fun id x b o c o' u e=>by simp [hget_nil] at e⟩
theorem M0_nil {fl:Nat}{θ:Th}{b:Nat}:¬ M0 [] fl θ b:=fun ⟨id,x,_,_,e,_⟩=>by simp [hget_nil] at e
theorem evC_nil:evFn Orc.no 0 0 a54 [.sl none 0 (.ex 0)] [] (2+1)=some (.sl none 0 (.ex 0),[],2+1):=by kernel_rfl
theorem evC_emp:evFn Orc.no 0 0 a54 [.sl (some (2,0)) 0 .unk] [] (2+1)=some (.sl (some (2+1,0)) 0 (.ex 0),[(2+1,⟨true,false,39,4,[]⟩)],2+2):=by kernel_rfl
theorem callCloneE (a:Addr)(w:World):Calls Tryd.prog 54 #[.slice (some a) 0 0] w fun e w'=>∃ b c,e=.returned (.slice (some b) 0 c)∧b.spot=none∧Chg (fun _=>False) w w':=by
 have gen:∀ (w:World) d,(Op.equalIn (d+1) 22 (.slice (some a) 0 0) (.slice none 0 0)).run Tryd.prog w=.ok false w:=fun w d=>by
  simp [Op.equalIn,run_underlying Tryd.underlying22]
 have hrun:∀ w:World,(Op.equal 22 (.slice (some a) 0 0) (.slice none 0 0)).run Tryd.prog w=.ok false w:=fun w=>gen w 9999
 have hb:∀ w:World,(binOp .eql 22 (.slice (some a) 0 0) (.slice none 0 0)).run Tryd.prog w=.ok (.bool false) w:=fun w=>by simp [binOp,hrun]
 go_enter Tryd.func54,Tryd.ntmps54
 go_wp2
 go_ret
 exact ⟨_,_,rfl,rfl,Chg.alloc _ _ _⟩
theorem cloneEmp {θ:Th}{w:World}{h:AHeap}(m:Mem Tryd.prog 2 θ h w){cap:ACap}{v:Value}(r:VRel θ (.vs 0 cap []) v):Calls Tryd.prog 54 #[v] w fun e w'=>∃ u,e=.returned u∧Emp u∧Chg (fun _=>False) w w':=by
 have hb:HB [] (2+1):=fun id x e=>by simp [hget_nil] at e
 simp only [VRel] at r
 rcases r with ⟨b,o,sp,cap',us,rfl,h0,h1,h2,_⟩|⟨rfl,_⟩
 ·cases sp with
  |some z=>
   have hc:cap'=0:=by
    rcases Nat.eq_zero_or_pos cap' with e|e
    ·exact e
    ·cases h0 e
   subst hc
   refine (callCloneE _ w).mono fun e w' hd=>?_
   obtain ⟨b',c',rfl,hs,hC⟩:=hd
   exact ⟨_,rfl,⟨_,_,rfl,(fun z=>by cases z),(fun p z _=>by cases z;exact hs)⟩,hC⟩
  |none=>
  refine (evFn_sound (by kernel_rfl) OSound.no Tryd.func54 ok54 rfl evC_emp hb (empty_mem m (some (b,o,0))) (by simp only [VRels,VRel];exact ⟨_,_,rfl,⟨b,o,0,cap',by simp,rfl,h1,trivial⟩,rfl⟩) (fun id h1 _=>by simp only;rw [if_neg (by omega),if_neg (by omega)])).mono fun e w' hd=>?_
  obtain ⟨u,rfl,θ',g1,g2,g3⟩:=hd
  simp only [VRel] at g2
  obtain ⟨b',o',c',k',_,hu,_,hk⟩:=g2
  subst hk
  exact ⟨u,rfl,⟨_,_,hu,(fun z=>by cases z),(fun p z _=>by cases z;rfl)⟩,g3.chg.mono fun b _ q=>(M0_nil q).elim⟩
 ·refine (evFn_sound (by kernel_rfl) OSound.no Tryd.func54 ok54 rfl evC_nil hb (empty_mem m none) (by simp [VRels,VRel]) (fun id h1 _=>by simp only;rw [if_neg (by omega)];split<;>rfl)).mono fun e w' hd=>?_
  obtain ⟨u,rfl,θ',g1,g2,g3⟩:=hd
  simp only [VRel] at g2
  exact ⟨u,rfl,⟨none,0,g2.2.2,(fun _=>rfl),(fun p z=>by cases z)⟩,g3.chg.mono fun b _ q=>(M0_nil q).elim⟩
theorem evC_vs {len n:Nat}{cap:ACap}{cs:List AV}{h:AHeap}(h1:cs.length=len*4)(h2:cs.all AV.one=true)(h3:cs.all AV.flat1=true)(h4:AV.nors cs=true)(h5:len*32≤140737488355328)(h6:0<len) :
  evP 2 Orc.no fsC 0 54 [.vs len cap cs] h n (n+1)=some (.vs len .unk cs,none)∧
  evP 2 Orc.no fsC 0 54 [.vs len cap cs] h n n=some (.sl (some (n,0)) len .op,some ([(n,⟨true,true,39,4,cs⟩)],n+1)):=by
 have hf:fsC 54=some a54:=rfl
 have e1:¬ len=0:=by omega
 have e2:List.take (len*4) cs=cs:=List.take_of_length_le (by omega)
 have e3:¬ len≤0:=by omega
 have e4:∀ {b:Nat} {h:AHeap} {f:Nat},frzs (frz true b h (f+1)) cs=some cs:=fun {b h f}=>frzs_flat h3
 have g2:hget (hglb h 2) 2=none:=by
  cases e:hget (hglb h 2) 2 with
  |none=>rfl
  |some x=>exact absurd (hglb_get e).1 (by omega)
 have g3:hget (hglb h 2) (2+1)=none:=by
  cases e:hget (hglb h 2) (2+1) with
  |none=>rfl
  |some x=>exact absurd (hglb_get e).1 (by omega)
 have e5:Nat.blt 0 len=true:=by rw [Nat.blt_eq];exact h6
 have e6:∀ {b:Nat} {l:List Nat},AV.idss b cs l=l:=idss_nors h4
 have e7:∀ {b c:Nat} {l:List Nat},AV.rens b c l cs=some cs:=rens_id h4
 have ev:evFn Orc.no 2 0 a54 [.vs len .unk cs] (hglb h 2) 2=some (.sl (some (2+1,0)) len .op,(2+1,⟨true,true,39,4,cs⟩)::(2,⟨true,false,39,4,[]⟩)::hglb h 2,2+2):=by
  generalize hglb h 2=G at *
  simp only [Nat.reduceAdd] at g3
  simp -implicitDefEqProofs only [a54,e1,e2,e3,e5,g2,g3,h1,h2,h5,Nat.le_refl,EV0.down,EV1.down,EV2.down,EV3.down,EV4.down,EV5.down,EV6.down,EV7.down,ne_eq,Nat.reduceLT,Nat.reduceEqDiff,reduceIte,Int.reduceLT,Int.reduceNeg,Nat.reduceAdd,Int.reduceEq,Nat.reduceLeDiff,Nat.reducePow,Nat.reduceDiv,Nat.reduceMod,Nat.reduceSub,Nat.reduceMul,Nat.reduceBEq,Int.reduceLE]
 have av:evV 2 Orc.no fsC 0 0=Orc.no:=rfl
 constructor
 ·have:evP 2 Orc.no fsC 0 54 [.vs len cap cs] h n (n+1)=evW 2 Orc.no 0 a54 (frzs (frz true 0 (bif AV.nors [.vs len cap cs] then [] else h) 8) [.vs len cap cs]) (AV.nors [.vs len cap cs]) (hglb h 2):=evV_frozen (fs:=fsC) (O:=Orc.no) (D:=0) hf
  rw [this]
  simp -implicitDefEqProofs only [evW_some,h4,ev,e2,e4,EV0.down,EV1.down,EV2.down,EV3.down,EV4.down,EV5.down,EV6.down,EV7.down,ne_eq,Nat.reduceLT,Nat.reduceEqDiff,reduceIte,Int.reduceLT,Int.reduceNeg,Nat.reduceAdd,Int.reduceEq,Nat.reduceLeDiff,Nat.reducePow,Nat.reduceDiv,Nat.reduceMod,Nat.reduceSub,Nat.reduceMul,Nat.reduceBEq,Int.reduceLE]
 ·have:evP 2 Orc.no fsC 0 54 [.vs len cap cs] h n n=evX 2 Orc.no 0 a54 (frzs (frz true 0 (bif AV.nors [.vs len cap cs] then [] else h) 8) [.vs len cap cs]) (AV.nors [.vs len cap cs]) (hglb h 2) n:=evV_own (fs:=fsC) (O:=Orc.no) (D:=0) hf
  rw [this]
  simp -implicitDefEqProofs only [evX_some,h4,ev,e4,EV0.down,EV1.down,EV2.down,EV3.down,EV4.down,EV5.down,EV6.down,EV7.down,ne_eq,Nat.reduceLT,Nat.reduceEqDiff,reduceIte,Int.reduceLT,Int.reduceNeg,Nat.reduceAdd,Int.reduceEq,Nat.reduceLeDiff,Nat.reducePow,Nat.reduceDiv,Nat.reduceMod,Nat.reduceSub,Nat.reduceMul,Nat.reduceBEq,Int.reduceLE]
theorem O0_sound:OSound Tryd.prog 2 O0:=fun g args h n fl v r he=>by
 unfold O0 at he
 split at he
 ·rename_i s c
  simp only [Option.some.injEq,Prod.mk.injEq] at he
  obtain ⟨rfl,rfl⟩:=he
  refine ⟨⟨Tryd.f107,_,Tryd.func107,rfl,by kernel_rfl⟩,fun _=>⟨trivial,fun θ w cargs _ ha _=>?_⟩⟩
  simp only [VRels,VRel] at ha
  obtain ⟨v1,vs,e1,rfl,v2,vs2,rfl,rfl,rfl⟩:=ha
  have:cargs = #[.string s,.int .u8 c]:=by
   obtain ⟨l⟩:=cargs;simp at e1;rw [e1]
  subst this
  exact (callIB s c w).mono fun e w' ⟨h1,h2⟩=>⟨_,h1,θ.fz,Th.fle_refl θ,fun _ _ _ e=>.inl e,by simp only [VRel],by rw [h2];exact Chg.refl _ _⟩
 ·rename_i len cap cs
  unfold cloneW at he
  cases hc:(Nat.beq cs.length (len*4)&&cs.all AV.one&&cs.all AV.flat1&&AV.nors cs&&Nat.ble (len*32) 140737488355328) with
  |false=>rw [hc] at he;cases he
  |true=>
   rw [hc,cond_true] at he
   simp only [Bool.and_eq_true] at hc
   obtain ⟨⟨⟨⟨c1,c2⟩,c3⟩,c4⟩,c5⟩:=hc
   have c1:=beq_true.1 c1
   have c5:=Nat.le_of_ble_eq_true c5
   have hP:Tryd.prog.follows .mixedOrders=true:=by kernel_rfl
   rcases Nat.eq_zero_or_pos len with z|z
   ·subst z
    have hcs:cs=[]:=List.eq_nil_of_length_eq_zero (by omega)
    subst hcs
    have hr:v=.vs 0 .unk []∧r=none:=by
     cases e1:Nat.beq fl (n+1) with
     |true=>rw [e1,cond_true] at he;cases he;exact ⟨rfl,rfl⟩
     |false=>
      rw [e1,cond_false] at he
      cases e2:Nat.beq fl n with
      |true=>rw [e2,cond_true] at he;cases he;exact ⟨rfl,rfl⟩
      |false=>rw [e2] at he;cases he
    obtain ⟨rfl,rfl⟩:=hr
    refine ⟨⟨Tryd.f54,_,Tryd.func54,rfl,by kernel_rfl⟩,fun _=>⟨trivial,fun θ w cargs hm ha _=>?_⟩⟩
    simp only [VRels] at ha
    obtain ⟨v1,vs,e1,ha,rfl⟩:=ha
    have:cargs = #[v1]:=by
     obtain ⟨l⟩:=cargs;simp at e1;rw [e1]
    subst this
    refine (cloneEmp hm ha).mono fun e w' hd=>?_
    obtain ⟨u,rfl,hu,hc⟩:=hd
    exact ⟨u,rfl,θ.fz,Th.fle_refl θ,fun _ _ _ e=>.inl e,hu.rel _,hc⟩
   ·obtain ⟨q1,q2⟩:=evC_vs (n:=n) (cap:=cap) (h:=h) c1 c2 c3 c4 c5 z
    have key:evP 2 Orc.no fsC 0 54 [.vs len cap cs] h n fl=some (v,r):=by
     cases e1:Nat.beq fl (n+1) with
     |true=>
      rw [e1,cond_true] at he
      rw [beq_true.1 e1,q1];exact he
     |false=>
      rw [e1,cond_false] at he
      cases e2:Nat.beq fl n with
      |true=>
       rw [e2,cond_true,beq_false.2 (by omega:len≠0),cond_false] at he
       rw [beq_true.1 e2,q2];exact he
      |false=>rw [e2] at he;cases he
    exact OSound.evP hP OSound.no fsC_ok _ _ _ _ _ _ _ key
 ·cases he
end Go.Proofs.YtogkkamlmklpkaaDoor.Ab
