/- Functions of the program as plain functions, and that the abstract machine's evaluation comes to them. Written by G.py. No condition. -/
import Derived.Test.YtogkkamlmklpkaaDoorH6
set_option maxRecDepth 100000
set_option maxHeartbeats 4000000
set_option linter.unusedVariables false
set_option linter.unusedSimpArgs false
namespace Go.Proofs.YtogkkamlmklpkaaDoor.Ab
open Go
theorem eref14_Cut (D:Nat)(hD:6≤D)(F:Nat)(a0_N:Int)(a0_Stab a0_Destab:List Pl)(a1:List Int)(q:Bool):evW 2 (OV F D) F a72 (some [.agg [.i .i64 a0_N,.vs a0_Stab.length .unk (enc Pl.cells a0_Stab),.vs a0_Destab.length .unk (enc Pl.cells a0_Destab)],.vs a1.length .unk (enc c3 a1)]) q G0 =
 match Pref14_Cut F a0_N a0_Stab a0_Destab a1 with|none=>none|some (r0,r1)=>some (.tup [.i .i64 r0,.i .i64 r1],none):=by
 obtain ⟨D,rfl⟩:=dex hD
 have cref14_Right0:=eref14_Right (D+5) (by omega) F
 have cref14_apart0:=eref14_apart (D+5) (by omega) F
 have cref14_reduced0:=eref14_reduced (D+5) (by omega) F
 have cref14_reduced0_0:=fun a1=>eref14_reduced (D+5) (by omega) F [] a1
 simp only [List.length_nil,enc_nil] at cref14_reduced0_0
 rw [evW_some,G0]
 simp only [Pref14_Cut]
 rcases h1:(Pref14_Right F a0_N a0_Stab a0_Destab) with _|r1
 rotate_left
 rcases h2:(r1) with _|_
 rotate_left
 rcases h3:(Pref14_apart F a1 a0_N) with _|r2
 rotate_left
 rcases h4:(r2) with _|_
 rotate_left
 simp -implicitDefEqProofs only [*,a72,vref14_Right,vref14_apart,vref14_reduced,runC_loop,EVA.down,ne_eq,seval]
 rw [lref14_CutL0 (D+6) (by omega) F a1 a0_N a0_Stab a0_Destab _ F 0#64 0 _ (by simp only [*,a72,vref14_Right,vref14_apart,vref14_reduced,EVA.down,ne_eq,seval];try rfl)]
 rcases h5:(Pref14_CutL0 a1 a0_N a0_Stab a0_Destab F 0#64 0) with _|y3
 rotate_left
 simp -implicitDefEqProofs only [*,a72,vref14_Right,vref14_apart,vref14_reduced,runC_loop,EVA.down,ne_eq,seval]
 rw [lref14_CutL2 (D+6) (by omega) F  _ F a1 y3 0 a0_N a0_Stab a0_Destab _ (by simp only [*,a72,vref14_Right,vref14_apart,vref14_reduced,EVA.down,ne_eq,seval];try rfl)]
 rcases h6:(Pref14_CutL2 F a1 y3 0 a0_N a0_Stab a0_Destab) with _|(⟨y4,y5,y6,y7⟩|⟨y8,y9,y10,y11,y12⟩)
 rotate_left
 rcases h7:(Pref14_reduced F ([]) y5) with _|r13
 rotate_left
 rotate_left
 rcases h8:(Pref14_reduced F y12 y9) with _|r14
 all_goals simp -implicitDefEqProofs only [*,a72,vref14_Right,vref14_apart,vref14_reduced,EVA.down,ne_eq,seval]
theorem vref14_Cut {D F n:Nat}{args:List AV}{h:AHeap}:OV F (D+1) 72 args h n (n+1)=evW 2 (OV F D) F a72 (frzs (frz true 0 (bif AV.nors args then [] else h) 8) args) (AV.nors args) (hglb h 2):=evV_frozen rfl
theorem etb_Canon (D:Nat)(hD:6≤D)(F:Nat)(a0_N:Int)(a0_Stab a0_Destab:List Pl)(q:Bool):evW 2 (OV F D) F a42 (some [.agg [.i .i64 a0_N,.vs a0_Stab.length .unk (enc Pl.cells a0_Stab),.vs a0_Destab.length .unk (enc Pl.cells a0_Destab)]]) q G0 =
 match Ptb_Canon F a0_N a0_Stab a0_Destab with|none=>none|some (r0,r1)=>some (.tup [.vs r0.length .unk (enc Pl.cells r0),.i .i64 r1],none):=by
 obtain ⟨D,rfl⟩:=dex hD
 have ctb_Check0:=etb_Check (D+5) (by omega) F
 have ctb_echelono0:=etb_echelono (D+5) (by omega) F
 rw [evW_some,G0]
 simp only [Ptb_Canon]
 rcases h1:(Ptb_Check F a0_N a0_Stab a0_Destab) with _|r1
 rotate_left
 by_cases h2:r1=0
 replace h2:=eq_true h2
 rcases h3:(Ptb_echelon F a0_Stab a0_N) with _|r2
 rotate_left
 by_cases h4:r2=[]
 replace h4:=eq_true h4
 all_goals simp -implicitDefEqProofs only [*,a42,vtb_Check,vtb_echelono,EVA.down,ne_eq,seval]
theorem vtb_Canon {D F n:Nat}{args:List AV}{h:AHeap}:OV F (D+1) 42 args h n (n+1)=evW 2 (OV F D) F a42 (frzs (frz true 0 (bif AV.nors args then [] else h) 8) args) (AV.nors args) (hglb h 2):=evV_frozen rfl
theorem etb_Canono (D:Nat)(hD:6≤D)(F:Nat)(a0_N:Int)(a0_Stab a0_Destab:List Pl)(n:Nat):evX 2 (OV F D) F a42 (some [.agg [.i .i64 a0_N,.vs a0_Stab.length .unk (enc Pl.cells a0_Stab),.vs a0_Destab.length .unk (enc Pl.cells a0_Destab)]]) true G0 n =
 match Ptb_Canon F a0_N a0_Stab a0_Destab with|none=>none|some (r0,r1)=>(match ownS Pl.cells 39 4 (.vs 0 .unk []) r0 n with|(w0,g0,n0)=>some (.tup [w0,.i .i64 r1],some (g0,n0))):=by
 obtain ⟨D,rfl⟩:=dex hD
 have ctb_Check0:=etb_Check (D+5) (by omega) F
 have ctb_echelono0:=etb_echelono (D+5) (by omega) F
 rw [evX_some,G0]
 simp only [Ptb_Canon]
 rcases h1:(Ptb_Check F a0_N a0_Stab a0_Destab) with _|r1
 rotate_left
 by_cases h2:r1=0
 replace h2:=eq_true h2
 rcases h3:(Ptb_echelon F a0_Stab a0_N) with _|r2
 rotate_left
 by_cases h4:r2=[]
 replace h4:=eq_true h4
 all_goals simp -implicitDefEqProofs only [*,a42,vtb_Check,vtb_echelono,EVA.down,ne_eq,seval]
theorem vtb_Canono {D F n:Nat}{args:List AV}{h:AHeap}:OV F (D+1) 42 args h n n=evX 2 (OV F D) F a42 (frzs (frz true 0 (bif AV.nors args then [] else h) 8) args) (AV.nors args) (hglb h 2) n:=evV_own rfl
theorem eref14_Canon (D:Nat)(hD:6≤D)(F:Nat)(a0_N:Int)(a0_Stab a0_Destab:List Pl):evW 2 (OV F D) F a73 (some [.agg [.i .i64 a0_N,.vs a0_Stab.length .unk (enc Pl.cells a0_Stab),.vs a0_Destab.length .unk (enc Pl.cells a0_Destab)]]) true G0 =
 match Pref14_Canon F a0_N a0_Stab a0_Destab with|none=>none|some (r0,r1)=>some (.tup [.vs r0.length .unk (enc Pl.cells r0),.i .i64 r1],none):=by
 obtain ⟨D,rfl⟩:=dex hD
 have cref14_Right0:=eref14_Right (D+5) (by omega) F
 have cref14_reduced0:=eref14_reduced (D+5) (by omega) F
 rw [evW_some,G0]
 simp only [Pref14_Canon]
 rcases h1:(Pref14_Right F a0_N a0_Stab a0_Destab) with _|r1
 rotate_left
 rcases h2:(r1) with _|_
 rotate_left
 rcases h3:(Pref14_reduced F a0_Stab a0_N) with _|r2
 all_goals simp -implicitDefEqProofs only [*,a73,vref14_Right,vref14_reduced,EVA.down,ne_eq,seval]
theorem vref14_Canon {D F n:Nat}{args:List AV}{h:AHeap}:OV F (D+1) 73 args h n (n+1)=evW 2 (OV F D) F a73 (frzs (frz true 0 (bif AV.nors args then [] else h) 8) args) (AV.nors args) (hglb h 2):=evV_frozen rfl
theorem llaw14_tellsL1 (D:Nat)(hD:0≤D)(F:Nat)(v0:List Pl)(v1 v2:Int)(v3 v4:List Pl)(v5:Int)(v6 v7:List Pl)(K:AE→AS→Option Res):∀ (f:Nat) (s:AS),s.keepG 2 [4,5,22,26] [4,5]=some ⟨[(4,.lp 4 0),(5,.lp 5 0),(22,.vs v0.length .unk (enc Pl.cells v0)),(26,.i .i64 v1)],[(4,[.i .i64 v2,.vs v3.length .unk (enc Pl.cells v3),.vs v4.length .unk (enc Pl.cells v4)]),(5,[.i .i64 v5,.vs v6.length .unk (enc Pl.cells v6),.vs v7.length .unk (enc Pl.cells v7)])],[(0,tab64)],2⟩→
 evLoop (evC (OV F D) 2 F a32L1) f s K=match Plaw14_tellsL1 v0 v1 v2 v3 v4 v5 v6 v7 f with|none=>none|some (_)=>K (.ex 2) ⟨[(4,.lp 4 0),(5,.lp 5 0)],[(4,[.i .i64 v2,.vs v3.length .unk (enc Pl.cells v3),.vs v4.length .unk (enc Pl.cells v4)]),(5,[.i .i64 v5,.vs v6.length .unk (enc Pl.cells v6),.vs v7.length .unk (enc Pl.cells v7)])],[(0,tab64)],2⟩:=by
 intro f
 induction f with
 |zero=>intro s hs;simp only [evLoop,Plaw14_tellsL1]
 |succ f ih=>
 intro s hs
 obtain ⟨k0,hk,hn,he,hr⟩:=@lk_all (OV F (D)) 2 F a32L1 f K
 rw [loop_succ,hk,a32L1,runC_cutg,hs]
 clear hs
 simp only [Plaw14_tellsL1]
 clear hk
 by_cases h1:v1<(v0.length:Int)
 rcases ixo (@pk_Pl_cells v0 v1) with h2|⟨x1,h2⟩
 all_goals simp -implicitDefEqProofs (maxSteps:=4000000) only [*,-ih,EVA.down,ne_eq,seval]
theorem llaw14_tellsL2 (D:Nat)(hD:0≤D)(F:Nat)(v1:Int)(v2 v3:List Pl)(v4:Int)(v5 v6:List Pl)(K:AE→AS→Option Res):∀ (f:Nat) (v0:Int) (v7:List Pl) (s:AS),s.keepG 2 [4,5,22,26] [4,5]=some ⟨[(4,.lp 4 0),(5,.lp 5 0),(22,.sl (some (2,0)) v7.length .op),(26,.i .i64 v0)],[(4,[.i .i64 v1,.vs v2.length .unk (enc Pl.cells v2),.vs v3.length .unk (enc Pl.cells v3)]),(5,[.i .i64 v4,.vs v5.length .unk (enc Pl.cells v5),.vs v6.length .unk (enc Pl.cells v6)])],[(2,⟨true,true,39,4,enc Pl.cells v7⟩),(0,tab64)],3⟩→
 evLoop (evC (OV F D) 2 F a32L1) f s K=match Plaw14_tellsL2 v1 v2 v3 v4 v5 v6 f v0 v7 with|none=>none|some (_)=>K (.ex 2) ⟨[(4,.lp 4 0),(5,.lp 5 0)],[(4,[.i .i64 v1,.vs v2.length .unk (enc Pl.cells v2),.vs v3.length .unk (enc Pl.cells v3)]),(5,[.i .i64 v4,.vs v5.length .unk (enc Pl.cells v5),.vs v6.length .unk (enc Pl.cells v6)])],[(0,tab64)],2⟩:=by
 intro f
 induction f with
 |zero=>intro v0 v7 s hs;simp only [evLoop,Plaw14_tellsL2]
 |succ f ih=>
 intro v0 v7 s hs
 obtain ⟨k0,hk,hn,he,hr⟩:=@lk_all (OV F (D)) 2 F a32L1 f K
 rw [loop_succ,hk,a32L1,runC_cutg,hs]
 clear hs
 simp only [Plaw14_tellsL2]
 clear hk
 by_cases h1:v0<(((v7.length:Nat):Int))
 rcases ixo (@pk_Pl_cells v7 v0) with h2|⟨x1,h2⟩
 rotate_left
 have h3:v0.toNat*4+4≤v7.length*4:=by have:=(idx_some h2.1).2.1;omega
 have h4:splice (enc Pl.cells v7) (v0.toNat*4) [.i .i64 (77),.i .u64 (U (0#64)),.i .u64 (U (0#64)),.i .i64 (0)]=enc Pl.cells ((v7).set v0.toNat (⟨77,0#64,0#64,0⟩:Pl)):=own_put len_Pl_cells h2.1 (⟨77,0#64,0#64,0⟩:Pl)
 all_goals simp -implicitDefEqProofs (maxSteps:=4000000) only [*,-ih,EVA.down,ne_eq,seval]
 all_goals exact ih _ _ _ (by simp only [*,-ih,EVA.down,ne_eq,seval])
theorem elaw14_tells (D:Nat)(hD:7≤D)(F:Nat)(a0_N:Int)(a0_Stab a0_Destab:List Pl)(a1_N:Int)(a1_Stab a1_Destab:List Pl)(a2_N:Int)(a2_X a2_Z:BitVec 64)(a2_Phase:Int)(a3:List Int)(q:Bool):evW 2 (OV F D) F a32 (some [.agg [.i .i64 a0_N,.vs a0_Stab.length .unk (enc Pl.cells a0_Stab),.vs a0_Destab.length .unk (enc Pl.cells a0_Destab)],.agg [.i .i64 a1_N,.vs a1_Stab.length .unk (enc Pl.cells a1_Stab),.vs a1_Destab.length .unk (enc Pl.cells a1_Destab)],.agg [.i .i64 a2_N,.i .u64 (U a2_X),.i .u64 (U a2_Z),.i .i64 a2_Phase],.vs a3.length .unk (enc c3 a3)]) q G0 =
 match Plaw14_tells F a0_N a0_Stab a0_Destab a1_N a1_Stab a1_Destab a2_N a2_X a2_Z a2_Phase a3 with|none=>none|some r0=>some (.b r0,none):=by
 obtain ⟨D,rfl⟩:=dex hD
 have claw14_num0:=elaw14_num (D+6) (by omega) F
 have cref14_Alike0:=eref14_Alike (D+6) (by omega) F
 have ctb_Cut0:=etb_Cut (D+6) (by omega) F
 have ctb_Member0:=etb_Member (D+6) (by omega) F
 have cref14_SameRows0:=eref14_SameRows (D+6) (by omega) F
 have ctb_Canono0:=etb_Canono (D+6) (by omega) F
 have cref14_Member0:=eref14_Member (D+6) (by omega) F
 have cref14_Cut0:=eref14_Cut (D+6) (by omega) F
 have cref14_Canon0:=eref14_Canon (D+6) (by omega) F
 have cref14_SameRows0_0:=fun a1=>eref14_SameRows (D+6) (by omega) F [] a1
 simp only [List.length_nil,enc_nil] at cref14_SameRows0_0
 rw [evW_some,G0]
 simp only [Plaw14_tells]
 simp -implicitDefEqProofs (maxSteps:=4000000) only [*,a32,vlaw14_num,vref14_Alike,vtb_Cut,vtb_Member,vref14_SameRows,vtb_Canono,vref14_Member,vref14_Cut,vref14_Canon,runC_loop,EVA.down,ne_eq,seval]
 rw [llaw14_tellsL0 (D+7) (by omega) F a3 a0_N a0_Stab a0_Destab a1_N a1_Stab a1_Destab a2_N a2_X a2_Z a2_Phase _ F ((-1):Int) _ (by simp only [*,a32,vlaw14_num,vref14_Alike,vtb_Cut,vtb_Member,vref14_SameRows,vtb_Canono,vref14_Member,vref14_Cut,vref14_Canon,EVA.down,ne_eq,seval];try rfl)]
 rcases h1:(Plaw14_tellsL0 F a3 a0_N a0_Stab a0_Destab a1_N a1_Stab a1_Destab a2_N a2_X a2_Z a2_Phase F ((-1):Int)) with _|(_|_)
 rotate_left
 rotate_left
 rcases h2:(Ptb_Member F a0_N a0_Stab a0_Destab a2_N a2_X a2_Z a2_Phase) with _|⟨r1,r2⟩
 rotate_left
 rcases h3:(Pref14_Member F a1_N a1_Stab a1_Destab a2_N a2_X a2_Z a2_Phase) with _|⟨r3,r4⟩
 rotate_left
 rcases h4:(Ptb_Cut F a0_N a0_Stab a0_Destab a3) with _|⟨r5,r6⟩
 rotate_left
 rcases h5:(Pref14_Cut F a1_N a1_Stab a1_Destab a3) with _|⟨r7,r8⟩
 rotate_left
 rcases h6:(Ptb_Canon F a0_N a0_Stab a0_Destab) with _|⟨r9,r10⟩
 rotate_left
 by_cases h7:r9=[]
 replace h7:=eq_true h7
 rcases h8:(Pref14_Canon F a1_N a1_Stab a1_Destab) with _|⟨r11,r12⟩
 rotate_left
 by_cases h9:r1=r3
 replace h9:=eq_true h9
 by_cases h10:(Plaw14_num r2)=r4
 replace h10:=eq_true h10
 by_cases h11:r5=r7
 replace h11:=eq_true h11
 by_cases h12:(Plaw14_num r6)=r8
 replace h12:=eq_true h12
 by_cases h13:(Plaw14_num r10)=r12
 replace h13:=eq_true h13
 rcases h14:(Pref14_SameRows F ([]) r11) with _|r13
 rotate_left
 rcases h15:(r13) with _|_
 rotate_left
 simp -implicitDefEqProofs (maxSteps:=4000000) only [*,a32,vlaw14_num,vref14_Alike,vtb_Cut,vtb_Member,vref14_SameRows,vtb_Canono,vref14_Member,vref14_Cut,vref14_Canon,runC_loop,EVA.down,ne_eq,seval]
 rw [llaw14_tellsL1 (D+7) (by omega) F ([]) 0 a0_N a0_Stab a0_Destab a1_N a1_Stab a1_Destab _ F  _ (by simp only [*,a32,vlaw14_num,vref14_Alike,vtb_Cut,vtb_Member,vref14_SameRows,vtb_Canono,vref14_Member,vref14_Cut,vref14_Canon,EVA.down,ne_eq,seval];try rfl)]
 rcases h16:(Plaw14_tellsL1 ([]) 0 a0_N a0_Stab a0_Destab a1_N a1_Stab a1_Destab F) with _|_
 rotate_left
 rcases h17:(Pref14_Alike F a0_N a0_Stab a0_Destab a1_N a1_Stab a1_Destab) with _|r14
 rotate_left
 rotate_left
 rotate_left
 rotate_left
 rotate_left
 rotate_left
 rotate_left
 rcases h18:(Pref14_Canon F a1_N a1_Stab a1_Destab) with _|⟨r15,r16⟩
 rotate_left
 by_cases h19:r1=r3
 replace h19:=eq_true h19
 by_cases h20:(Plaw14_num r2)=r4
 replace h20:=eq_true h20
 by_cases h21:r5=r7
 replace h21:=eq_true h21
 by_cases h22:(Plaw14_num r6)=r8
 replace h22:=eq_true h22
 by_cases h23:(Plaw14_num r10)=r16
 replace h23:=eq_true h23
 rcases h24:(Pref14_SameRows F r9 r15) with _|r17
 rotate_left
 rcases h25:(r17) with _|_
 rotate_left
 simp -implicitDefEqProofs (maxSteps:=4000000) only [*,a32,vlaw14_num,vref14_Alike,vtb_Cut,vtb_Member,vref14_SameRows,vtb_Canono,vref14_Member,vref14_Cut,vref14_Canon,runC_loop,EVA.down,ne_eq,seval]
 rw [llaw14_tellsL2 (D+7) (by omega) F a0_N a0_Stab a0_Destab a1_N a1_Stab a1_Destab _ F 0 r9 _ (by simp only [*,a32,vlaw14_num,vref14_Alike,vtb_Cut,vtb_Member,vref14_SameRows,vtb_Canono,vref14_Member,vref14_Cut,vref14_Canon,EVA.down,ne_eq,seval];try rfl)]
 rcases h26:(Plaw14_tellsL2 a0_N a0_Stab a0_Destab a1_N a1_Stab a1_Destab F 0 r9) with _|_
 rotate_left
 rcases h27:(Pref14_Alike F a0_N a0_Stab a0_Destab a1_N a1_Stab a1_Destab) with _|r18
 all_goals simp -implicitDefEqProofs (maxSteps:=4000000) only [*,a32,vlaw14_num,vref14_Alike,vtb_Cut,vtb_Member,vref14_SameRows,vtb_Canono,vref14_Member,vref14_Cut,vref14_Canon,EVA.down,ne_eq,seval]
theorem vlaw14_tells {D F n:Nat}{args:List AV}{h:AHeap}:OV F (D+1) 32 args h n (n+1)=evW 2 (OV F D) F a32 (frzs (frz true 0 (bif AV.nors args then [] else h) 8) args) (AV.nors args) (hglb h 2):=evV_frozen rfl
theorem llaw14_TableauPlaysL0 (D:Nat)(hD:10≤D)(F:Nat)(v0:List S69)(v1:List Int)(v2 v4:Int)(v5 v6:BitVec 64)(v7:Int)(K:AE→AS→Option Res):∀ (f:Nat) (v3 v8:Int) (v9 v10:List Pl) (v11:Int) (v12 v13:List Pl) (s:AS),s.keep [1,3,6,9,11,12,13] [6,9,11]=some ⟨[(1,.vs v0.length .unk (enc S69.cs v0)),(3,.vs v1.length .unk (enc c3 v1)),(6,.lp 6 0),(9,.lp 9 0),(11,.lp 11 0),(12,.i .i64 v2),(13,.i .i64 v3)],[(6,[.i .i64 v4,.i .u64 (U v5),.i .u64 (U v6),.i .i64 v7]),(9,[.i .i64 v8,.vs v9.length .unk (enc Pl.cells v9),.vs v10.length .unk (enc Pl.cells v10)]),(11,[.i .i64 v11,.vs v12.length .unk (enc Pl.cells v12),.vs v13.length .unk (enc Pl.cells v13)])],[(0,tab64)],2⟩→
 evLoop (evC (OV F D) 2 F a8L0) f s K=match Plaw14_TableauPlaysL0 F v0 v1 v2 v4 v5 v6 v7 f v3 v8 v9 v10 v11 v12 v13 with|none=>none|some (.inl _)=>K .ret ⟨[(8,.b false)],[],[(0,tab64)],2⟩|some (.inr _)=>K (.ex 0) ⟨[],[],[(0,tab64)],2⟩:=by
 obtain ⟨D,rfl⟩:=dex hD
 have cref14_Alike0:=eref14_Alike (D+9) (by omega) F
 have cref14_Copy0:=eref14_Copy (D+9) (by omega) F
 have claw14_done0:=elaw14_done (D+9) (by omega) F
 have claw14_tells0:=elaw14_tells (D+9) (by omega) F
 intro f
 induction f with
 |zero=>intro v3 v8 v9 v10 v11 v12 v13 s hs;simp only [evLoop,Plaw14_TableauPlaysL0]
 |succ f ih=>
 intro v3 v8 v9 v10 v11 v12 v13 s hs
 obtain ⟨k0,hk,hn,he,hr⟩:=@lk_all (OV F (D+10)) 2 F a8L0 f K
 rw [loop_succ,hk,a8L0,runC_cut,hs]
 clear hs
 simp only [Plaw14_TableauPlaysL0]
 clear hk
 by_cases h1:v3<(v0.length:Int)
 by_cases h2:v2=0
 replace h2:=eq_true h2
 rcases h3:(Pref14_Copy v8 v9 v10) with _|⟨r1,r2,r3⟩
 rotate_left
 rcases ixo (@pk_S69_cs v0 v3) with h4|⟨x4,h4⟩
 rotate_left
 rcases h5:(Plaw14_done F v8 v9 v10 v11 v12 v13 x4.f_Kind x4.f_Gate x4.f_Q x4.f_Value) with _|⟨r5,r6,r7,r8,r9,r10,r11⟩
 rotate_left
 rcases h6:(r11) with _|_
 rotate_left
 rcases h7:(Pref14_Alike F v8 v9 v10 r1 r2 r3) with _|r12
 rotate_left
 rcases h8:(r12) with _|_
 rotate_left
 rcases h9:(Plaw14_tells F r5 r6 r7 r8 r9 r10 v4 v5 v6 v7 v1) with _|r13
 rotate_left
 rcases h10:(r13) with _|_
 all_goals simp -implicitDefEqProofs (maxSteps:=4000000) only [*,-ih,vref14_Alike,vref14_Copy,vlaw14_done,vlaw14_tells,EVA.down,ne_eq,seval]
 all_goals exact ih _ _ _ _ _ _ _ _ (by simp only [*,-ih,vref14_Alike,vref14_Copy,vlaw14_done,vlaw14_tells,EVA.down,ne_eq,seval])
theorem elaw14_TableauPlays (D:Nat)(hD:10≤D)(F:Nat)(a0:Int)(a1:List S69)(a2_N:Int)(a2_X a2_Z:BitVec 64)(a2_Phase:Int)(a3:List Int)(q:Bool):evW 2 (OV F D) F a8 (some [.i .i64 a0,.vs a1.length .unk (enc S69.cs a1),.agg [.i .i64 a2_N,.i .u64 (U a2_X),.i .u64 (U a2_Z),.i .i64 a2_Phase],.vs a3.length .unk (enc c3 a3)]) q G0 =
 match Plaw14_TableauPlays F a0 a1 a2_N a2_X a2_Z a2_Phase a3 with|none=>none|some r0=>some (.b r0,none):=by
 obtain ⟨D,rfl⟩:=dex hD
 have ctb_New0:=etb_New (D+9) (by omega) F
 have cref14_New0:=eref14_New (D+9) (by omega) F
 have claw14_num0:=elaw14_num (D+9) (by omega) F
 rw [evW_some,G0]
 simp only [Plaw14_TableauPlays]
 by_cases h1:(a1.length:Int)>300
 rotate_left
 rcases h2:(Ptb_New F a0) with _|⟨r1,r2,r3,r4⟩
 rotate_left
 rcases h3:(Pref14_New F a0) with _|⟨r5,r6,r7,r8⟩
 rotate_left
 by_cases h4:(Plaw14_num r4)=r8
 replace h4:=eq_true h4
 simp -implicitDefEqProofs (maxSteps:=4000000) only [*,a8,vtb_New,vref14_New,vlaw14_num,k16,runC_loop,EVA.down,ne_eq,seval]
 rw [llaw14_TableauPlaysL0 (D+10) (by omega) F a1 a3 r8 a2_N a2_X a2_Z a2_Phase _ F 0 r1 r2 r3 r5 r6 r7 _ (by simp only [*,a8,vtb_New,vref14_New,vlaw14_num,k16,EVA.down,ne_eq,seval];try rfl)]
 rcases h5:(Plaw14_TableauPlaysL0 F a1 a3 r8 a2_N a2_X a2_Z a2_Phase F 0 r1 r2 r3 r5 r6 r7) with _|(_|_)
 all_goals simp -implicitDefEqProofs (maxSteps:=4000000) only [*,a8,vtb_New,vref14_New,vlaw14_num,k16,EVA.down,ne_eq,seval]
theorem vlaw14_TableauPlays {D F n:Nat}{args:List AV}{h:AHeap}:OV F (D+1) 8 args h n (n+1)=evW 2 (OV F D) F a8 (frzs (frz true 0 (bif AV.nors args then [] else h) 8) args) (AV.nors args) (hglb h 2):=evV_frozen rfl
end Go.Proofs.YtogkkamlmklpkaaDoor.Ab
