/- Functions of the program as plain functions, and that the abstract machine's evaluation comes to them. Written by G.py. No condition. -/
import Derived.Test.YtogkkamlmklpkaaDoorH6
set_option maxRecDepth 100000
set_option maxHeartbeats 4000000
set_option linter.unusedVariables false
set_option linter.unusedSimpArgs false
namespace Go.Proofs.YtogkkamlmklpkaaDoor.Ab
open Go
theorem etb_Cut (D:Nat)(hD:6≤D)(F:Nat)(a0_N:Int)(a0_Stab a0_Destab:List Pl)(a1:List Int)(q:Bool):evW 2 (OV F D) F a22 (some [.agg [.i .i64 a0_N,.vs a0_Stab.length .unk (enc Pl.cells a0_Stab),.vs a0_Destab.length .unk (enc Pl.cells a0_Destab)],.vs a1.length .unk (enc c3 a1)]) q G0 =
 match Ptb_Cut F a0_N a0_Stab a0_Destab a1 with|none=>none|some (r0,r1)=>some (.tup [.i .i64 r0,.i .i64 r1],none):=by
 obtain ⟨D,rfl⟩:=dex hD
 have ctb_Check0:=etb_Check (D+5) (by omega) F
 have ctb_unlike0:=etb_unlike (D+5) (by omega) F
 have ctb_echelon0:=etb_echelon (D+5) (by omega) F
 have ctb_echelon0_0:=fun a1=>etb_echelon (D+5) (by omega) F [] a1
 simp only [List.length_nil,enc_nil] at ctb_echelon0_0
 have ctb_echelon0_l0:∀ (a0:List Pl) (a1:Int) (q:Bool) (m0:Nat) (_:m0=a0.length),evW 2 (OV F (D+5)) F a55 (some [.vs m0 .unk (enc Pl.cells a0),.i .i64 a1]) q G0=match Ptb_echelon F a0 a1 with|none=>none|some r0=>some (.vs r0.length .unk (enc Pl.cells r0),none):=by
  intro a0 a1 q m0 hm0
  subst hm0
  exact etb_echelon (D+5) (by omega) F a0 a1 q
 rw [evW_some,G0]
 simp only [Ptb_Cut]
 rcases h1:(Ptb_Check F a0_N a0_Stab a0_Destab) with _|r1
 rotate_left
 by_cases h2:r1=0
 replace h2:=eq_true h2
 rcases h3:(Ptb_unlike F a1 a0_N) with _|r2
 rotate_left
 rcases h4:(r2) with _|_
 rotate_left
 simp -implicitDefEqProofs only [*,a22,vtb_Check,vtb_unlike,vtb_echelon,k54,runC_loop,EVA.down,ne_eq,seval]
 rw [ltb_CutL0 (D+6) (by omega) F a1 a1 (a1.length:Int) a0_N a0_Stab a0_Destab _ F 0#64 0 _ (by simp only [*,a22,vtb_Check,vtb_unlike,vtb_echelon,k54,EVA.down,ne_eq,seval];try rfl)]
 rcases h5:(Ptb_CutL0 a1 a1 (a1.length:Int) a0_N a0_Stab a0_Destab F 0#64 0) with _|y3
 rotate_left
 by_cases h6:a0_Stab.length*32≤140737488355328
 by_cases h7:a0_Stab=[]
 replace h7:=eq_true h7
 simp -implicitDefEqProofs only [*,a22,vtb_Check,vtb_unlike,vtb_echelon,k54,runC_loop,EVA.down,ne_eq,seval]
 rw [ltb_CutL1 (D+6) (by omega) F a1 y3 ([]) 0 0 a0_N a0_Stab a0_Destab _ F  _ (by simp only [*,a22,vtb_Check,vtb_unlike,vtb_echelon,k54,EVA.down,ne_eq,seval];try rfl)]
 rcases h8:(Ptb_CutL1 a1 y3 ([]) 0 0 a0_N a0_Stab a0_Destab F) with _|_
 rotate_left
 rcases h9:(Ptb_echelon F ([]) a0_N) with _|r4
 rotate_left
 simp -implicitDefEqProofs only [*,a22,vtb_Check,vtb_unlike,vtb_echelon,k54,runC_loop,EVA.down,ne_eq,seval]
 rw [ltb_CutL2 (D+6) (by omega) F a1 r4 (r4.length:Int) _ F 0 0 _ (by simp only [*,a22,vtb_Check,vtb_unlike,vtb_echelon,k54,EVA.down,ne_eq,seval];try rfl)]
 rcases h10:(Ptb_CutL2 a1 r4 (r4.length:Int) F 0 0) with _|y5
 rotate_left
 rotate_left
 simp -implicitDefEqProofs only [*,a22,vtb_Check,vtb_unlike,vtb_echelon,k54,runC_loop,EVA.down,ne_eq,seval]
 rw [ltb_CutL3 (D+6) (by omega) F a1 y3 ((a0_Stab.length:Nat):Int) a0_N a0_Stab a0_Destab _ F 0 a0_Stab _ (by simp only [*,a22,vtb_Check,vtb_unlike,vtb_echelon,k54,EVA.down,ne_eq,seval];try rfl)]
 rcases h11:(Ptb_CutL3 a1 y3 ((a0_Stab.length:Nat):Int) a0_N a0_Stab a0_Destab F 0 a0_Stab) with _|y6
 rotate_left
 have h11l0:y6.length=a0_Stab.length:=by have q:=ltb_CutL3n0_0 a1 y3 ((a0_Stab.length:Nat):Int) a0_N a0_Stab a0_Destab F 0 a0_Stab y6 h11;simpa only [List.length_set] using q
 have h11t0:=len_facts h11l0
 rcases h12:(Ptb_echelon F y6 a0_N) with _|r7
 rotate_left
 simp -implicitDefEqProofs only [*,a22,vtb_Check,vtb_unlike,vtb_echelon,k54,runC_loop,EVA.down,ne_eq,seval]
 rw [ltb_CutL2 (D+6) (by omega) F a1 r7 (r7.length:Int) _ F 0 0 _ (by simp only [*,a22,vtb_Check,vtb_unlike,vtb_echelon,k54,EVA.down,ne_eq,seval];try rfl)]
 rcases h13:(Ptb_CutL2 a1 r7 (r7.length:Int) F 0 0) with _|y8
 all_goals simp -implicitDefEqProofs only [*,a22,vtb_Check,vtb_unlike,vtb_echelon,k54,EVA.down,ne_eq,seval]
theorem vtb_Cut {D F n:Nat}{args:List AV}{h:AHeap}:OV F (D+1) 22 args h n (n+1)=evW 2 (OV F D) F a22 (frzs (frz true 0 (bif AV.nors args then [] else h) 8) args) (AV.nors args) (hglb h 2):=evV_frozen rfl
theorem lref14_CutL0 (D:Nat)(hD:0≤D)(F:Nat)(v0:List Int)(v3:Int)(v4 v5:List Pl)(K:AE→AS→Option Res):∀ (f:Nat) (v1:BitVec 64) (v2:Int) (s:AS),s.keepG 2 [1,2,6,7] [2]=some ⟨[(1,.vs v0.length .unk (enc c3 v0)),(2,.lp 2 0),(6,.i .u64 (U v1)),(7,.i .i64 v2)],[(2,[.i .i64 v3,.vs v4.length .unk (enc Pl.cells v4),.vs v5.length .unk (enc Pl.cells v5)])],[(0,tab64)],2⟩→
 evLoop (evC (OV F D) 2 F a72L0) f s K=match Pref14_CutL0 v0 v3 v4 v5 f v1 v2 with|none=>none|some (y0)=>K (.ex 0) ⟨[(1,.vs v0.length .unk (enc c3 v0)),(2,.lp 2 0),(6,.i .u64 (U y0))],[(2,[.i .i64 v3,.vs v4.length .unk (enc Pl.cells v4),.vs v5.length .unk (enc Pl.cells v5)])],[(0,tab64)],2⟩:=by
 intro f
 induction f with
 |zero=>intro v1 v2 s hs;simp only [evLoop,Pref14_CutL0]
 |succ f ih=>
 intro v1 v2 s hs
 obtain ⟨k0,hk,hn,he,hr⟩:=@lk_all (OV F (D)) 2 F a72L0 f K
 rw [loop_succ,hk,a72L0,runC_cutg,hs]
 clear hs
 simp only [Pref14_CutL0]
 clear hk
 by_cases h1:v2<(v0.length:Int)
 rcases ixo (@pk_c3 v0 v2) with h2|⟨x1,h2⟩
 all_goals simp -implicitDefEqProofs only [*,-ih,EVA.down,ne_eq,seval]
 all_goals exact ih _ _ _ (by simp only [*,-ih,EVA.down,ne_eq,seval])
theorem lref14_CutL1 (D:Nat)(hD:0≤D)(F:Nat)(K:AE→AS→Option Res):∀ (f:Nat) (v0:List Int) (v1:BitVec 64) (v2 v3:Int) (v4 v5 v6:List Pl) (s:AS),s.keepG 2 [1,2,6,8,9] [2]=some ⟨[(1,.vs v0.length .unk (enc c3 v0)),(2,.lp 2 0),(6,.i .u64 (U v1)),(8,.sl (some (2,0)) v6.length .op),(9,.i .i64 v2)],[(2,[.i .i64 v3,.vs v4.length .unk (enc Pl.cells v4),.vs v5.length .unk (enc Pl.cells v5)])],[(2,⟨true,true,39,4,enc Pl.cells v6⟩),(0,tab64)],3⟩→
 evLoop (evC (OV F D) 2 F a72L1) f s K=match Pref14_CutL1 f v0 v1 v2 v3 v4 v5 v6 with|none=>none|some (.inl (y0,y1,y2,y3))=>K (.ex 2) ⟨[(1,.vs y0.length .unk (enc c3 y0)),(2,.lp 2 0),(8,.sl none 0 (.ex 0))],[(2,[.i .i64 y1,.vs y2.length .unk (enc Pl.cells y2),.vs y3.length .unk (enc Pl.cells y3)])],[(0,tab64)],2⟩|some (.inr (y0,y1,y2,y3,y4))=>K (.ex 2) ⟨[(1,.vs y0.length .unk (enc c3 y0)),(2,.lp 2 0),(8,.sl (some (2,0)) y4.length .op)],[(2,[.i .i64 y1,.vs y2.length .unk (enc Pl.cells y2),.vs y3.length .unk (enc Pl.cells y3)])],[(2,⟨true,true,39,4,enc Pl.cells y4⟩),(0,tab64)],3⟩:=by
 intro f
 induction f with
 |zero=>intro v0 v1 v2 v3 v4 v5 v6 s hs;simp only [evLoop,Pref14_CutL1]
 |succ f ih=>
 intro v0 v1 v2 v3 v4 v5 v6 s hs
 obtain ⟨k0,hk,hn,he,hr⟩:=@lk_all (OV F (D)) 2 F a72L1 f K
 rw [loop_succ,hk,a72L1,runC_cutg,hs]
 clear hs
 simp only [Pref14_CutL1]
 clear hk
 by_cases h1:v2<v3
 rcases ixo (@pk_Pl_cells v4 v2) with h2|⟨x1,h2⟩
 rotate_left
 by_cases h3:(v6.length+1)*32≤140737488355328
 all_goals simp -implicitDefEqProofs only [*,-ih,EVA.down,ne_eq,seval]
 all_goals exact ih _ _ _ _ _ _ _ _ (by simp only [*,-ih,EVA.down,ne_eq,seval])
theorem lref14_CutL2 (D:Nat)(hD:0≤D)(F:Nat)(K:AE→AS→Option Res):∀ (f:Nat) (v0:List Int) (v1:BitVec 64) (v2 v3:Int) (v4 v5:List Pl) (s:AS),s.keepG 2 [1,2,6,8,9] [2]=some ⟨[(1,.vs v0.length .unk (enc c3 v0)),(2,.lp 2 0),(6,.i .u64 (U v1)),(8,.sl none 0 (.ex 0)),(9,.i .i64 v2)],[(2,[.i .i64 v3,.vs v4.length .unk (enc Pl.cells v4),.vs v5.length .unk (enc Pl.cells v5)])],[(0,tab64)],2⟩→
 evLoop (evC (OV F D) 2 F a72L1) f s K=match Pref14_CutL2 f v0 v1 v2 v3 v4 v5 with|none=>none|some (.inl (y0,y1,y2,y3))=>K (.ex 2) ⟨[(1,.vs y0.length .unk (enc c3 y0)),(2,.lp 2 0),(8,.sl none 0 (.ex 0))],[(2,[.i .i64 y1,.vs y2.length .unk (enc Pl.cells y2),.vs y3.length .unk (enc Pl.cells y3)])],[(0,tab64)],2⟩|some (.inr (y0,y1,y2,y3,y4))=>K (.ex 2) ⟨[(1,.vs y0.length .unk (enc c3 y0)),(2,.lp 2 0),(8,.sl (some (2,0)) y4.length .op)],[(2,[.i .i64 y1,.vs y2.length .unk (enc Pl.cells y2),.vs y3.length .unk (enc Pl.cells y3)])],[(2,⟨true,true,39,4,enc Pl.cells y4⟩),(0,tab64)],3⟩:=by
 have nlref14_CutL1:=lref14_CutL1 (D) (by omega) F K
 intro f
 induction f with
 |zero=>intro v0 v1 v2 v3 v4 v5 s hs;simp only [evLoop,Pref14_CutL2]
 |succ f ih=>
 intro v0 v1 v2 v3 v4 v5 s hs
 obtain ⟨k0,hk,hn,he,hr⟩:=@lk_all (OV F (D)) 2 F a72L1 f K
 rw [loop_succ,hk,a72L1,runC_cutg,hs]
 clear hs
 simp only [Pref14_CutL2]
 clear hk
 by_cases h1:v2<v3
 rcases ixo (@pk_Pl_cells v4 v2) with h2|⟨x1,h2⟩
 all_goals simp -implicitDefEqProofs only [*,-ih,EVA.down,ne_eq,seval]
 all_goals exact nlref14_CutL1 f _ _ _ _ _ _ _ _ (by simp only [*,-ih,EVA.down,ne_eq,seval])
theorem eref14_Cut (D:Nat)(hD:6≤D)(F:Nat)(a0_N:Int)(a0_Stab a0_Destab:List Pl)(a1:List Int)(q:Bool):evW 2 (OV F D) F a72 (some [.agg [.i .i64 a0_N,.vs a0_Stab.length .unk (enc Pl.cells a0_Stab),.vs a0_Destab.length .unk (enc Pl.cells a0_Destab)],.vs a1.length .unk (enc c3 a1)]) q G0 =
 match Pref14_Cut F a0_N a0_Stab a0_Destab a1 with|none=>none|some (r0,r1)=>some (.tup [.i .i64 r0,.i .i64 r1],none):=by
 obtain ⟨D,rfl⟩:=dex hD
 have cref14_Right0:=eref14_Right (D+5) (by omega) F
 have cref14_apart0:=eref14_apart (D+5) (by omega) F
 have cref14_reduced0:=eref14_reduced (D+5) (by omega) F
 have cref14_reduced0_0:=fun a1=>eref14_reduced (D+5) (by omega) F [] a1
 simp only [List.length_nil,enc_nil] at cref14_reduced0_0
 rw [evW_some,G0]
 simp only [Pref14_Cut]
 rcases h1:(Pref14_Right F a0_N a0_Stab a0_Destab) with _|r1
 rotate_left
 rcases h2:(r1) with _|_
 rotate_left
 rcases h3:(Pref14_apart F a1 a0_N) with _|r2
 rotate_left
 rcases h4:(r2) with _|_
 rotate_left
 simp -implicitDefEqProofs only [*,a72,vref14_Right,vref14_apart,vref14_reduced,runC_loop,EVA.down,ne_eq,seval]
 rw [lref14_CutL0 (D+6) (by omega) F a1 a0_N a0_Stab a0_Destab _ F 0#64 0 _ (by simp only [*,a72,vref14_Right,vref14_apart,vref14_reduced,EVA.down,ne_eq,seval];try rfl)]
 rcases h5:(Pref14_CutL0 a1 a0_N a0_Stab a0_Destab F 0#64 0) with _|y3
 rotate_left
 simp -implicitDefEqProofs only [*,a72,vref14_Right,vref14_apart,vref14_reduced,runC_loop,EVA.down,ne_eq,seval]
 rw [lref14_CutL2 (D+6) (by omega) F  _ F a1 y3 0 a0_N a0_Stab a0_Destab _ (by simp only [*,a72,vref14_Right,vref14_apart,vref14_reduced,EVA.down,ne_eq,seval];try rfl)]
 rcases h6:(Pref14_CutL2 F a1 y3 0 a0_N a0_Stab a0_Destab) with _|(⟨y4,y5,y6,y7⟩|⟨y8,y9,y10,y11,y12⟩)
 rotate_left
 rcases h7:(Pref14_reduced F ([]) y5) with _|r13
 rotate_left
 rotate_left
 rcases h8:(Pref14_reduced F y12 y9) with _|r14
 all_goals simp -implicitDefEqProofs only [*,a72,vref14_Right,vref14_apart,vref14_reduced,EVA.down,ne_eq,seval]
theorem vref14_Cut {D F n:Nat}{args:List AV}{h:AHeap}:OV F (D+1) 72 args h n (n+1)=evW 2 (OV F D) F a72 (frzs (frz true 0 (bif AV.nors args then [] else h) 8) args) (AV.nors args) (hglb h 2):=evV_frozen rfl
theorem llaw14_tellsL1 (D:Nat)(hD:0≤D)(F:Nat)(v0:List Pl)(v1 v2:Int)(v3 v4:List Pl)(v5:Int)(v6 v7:List Pl)(K:AE→AS→Option Res):∀ (f:Nat) (s:AS),s.keepG 2 [4,5,22,26] [4,5]=some ⟨[(4,.lp 4 0),(5,.lp 5 0),(22,.vs v0.length .unk (enc Pl.cells v0)),(26,.i .i64 v1)],[(4,[.i .i64 v2,.vs v3.length .unk (enc Pl.cells v3),.vs v4.length .unk (enc Pl.cells v4)]),(5,[.i .i64 v5,.vs v6.length .unk (enc Pl.cells v6),.vs v7.length .unk (enc Pl.cells v7)])],[(0,tab64)],2⟩→
 evLoop (evC (OV F D) 2 F a32L1) f s K=match Plaw14_tellsL1 v0 v1 v2 v3 v4 v5 v6 v7 f with|none=>none|some (_)=>K (.ex 2) ⟨[(4,.lp 4 0),(5,.lp 5 0)],[(4,[.i .i64 v2,.vs v3.length .unk (enc Pl.cells v3),.vs v4.length .unk (enc Pl.cells v4)]),(5,[.i .i64 v5,.vs v6.length .unk (enc Pl.cells v6),.vs v7.length .unk (enc Pl.cells v7)])],[(0,tab64)],2⟩:=by
 intro f
 induction f with
 |zero=>intro s hs;simp only [evLoop,Plaw14_tellsL1]
 |succ f ih=>
 intro s hs
 obtain ⟨k0,hk,hn,he,hr⟩:=@lk_all (OV F (D)) 2 F a32L1 f K
 rw [loop_succ,hk,a32L1,runC_cutg,hs]
 clear hs
 simp only [Plaw14_tellsL1]
 clear hk
 by_cases h1:v1<(v0.length:Int)
 rcases ixo (@pk_Pl_cells v0 v1) with h2|⟨x1,h2⟩
 all_goals simp -implicitDefEqProofs (maxSteps:=4000000) only [*,-ih,EVA.down,ne_eq,seval]
theorem llaw14_tellsL2 (D:Nat)(hD:0≤D)(F:Nat)(v1:Int)(v2 v3:List Pl)(v4:Int)(v5 v6:List Pl)(K:AE→AS→Option Res):∀ (f:Nat) (v0:Int) (v7:List Pl) (s:AS),s.keepG 2 [4,5,22,26] [4,5]=some ⟨[(4,.lp 4 0),(5,.lp 5 0),(22,.sl (some (2,0)) v7.length .op),(26,.i .i64 v0)],[(4,[.i .i64 v1,.vs v2.length .unk (enc Pl.cells v2),.vs v3.length .unk (enc Pl.cells v3)]),(5,[.i .i64 v4,.vs v5.length .unk (enc Pl.cells v5),.vs v6.length .unk (enc Pl.cells v6)])],[(2,⟨true,true,39,4,enc Pl.cells v7⟩),(0,tab64)],3⟩→
 evLoop (evC (OV F D) 2 F a32L1) f s K=match Plaw14_tellsL2 v1 v2 v3 v4 v5 v6 f v0 v7 with|none=>none|some (_)=>K (.ex 2) ⟨[(4,.lp 4 0),(5,.lp 5 0)],[(4,[.i .i64 v1,.vs v2.length .unk (enc Pl.cells v2),.vs v3.length .unk (enc Pl.cells v3)]),(5,[.i .i64 v4,.vs v5.length .unk (enc Pl.cells v5),.vs v6.length .unk (enc Pl.cells v6)])],[(0,tab64)],2⟩:=by
 intro f
 induction f with
 |zero=>intro v0 v7 s hs;simp only [evLoop,Plaw14_tellsL2]
 |succ f ih=>
 intro v0 v7 s hs
 obtain ⟨k0,hk,hn,he,hr⟩:=@lk_all (OV F (D)) 2 F a32L1 f K
 rw [loop_succ,hk,a32L1,runC_cutg,hs]
 clear hs
 simp only [Plaw14_tellsL2]
 clear hk
 by_cases h1:v0<(((v7.length:Nat):Int))
 rcases ixo (@pk_Pl_cells v7 v0) with h2|⟨x1,h2⟩
 rotate_left
 have h3:v0.toNat*4+4≤v7.length*4:=by have:=(idx_some h2.1).2.1;omega
 have h4:splice (enc Pl.cells v7) (v0.toNat*4) [.i .i64 (77),.i .u64 (U (0#64)),.i .u64 (U (0#64)),.i .i64 (0)]=enc Pl.cells ((v7).set v0.toNat (⟨77,0#64,0#64,0⟩:Pl)):=own_put len_Pl_cells h2.1 (⟨77,0#64,0#64,0⟩:Pl)
 all_goals simp -implicitDefEqProofs (maxSteps:=4000000) only [*,-ih,EVA.down,ne_eq,seval]
 all_goals exact ih _ _ _ (by simp only [*,-ih,EVA.down,ne_eq,seval])
theorem elaw14_tells (D:Nat)(hD:7≤D)(F:Nat)(a0_N:Int)(a0_Stab a0_Destab:List Pl)(a1_N:Int)(a1_Stab a1_Destab:List Pl)(a2_N:Int)(a2_X a2_Z:BitVec 64)(a2_Phase:Int)(a3:List Int)(q:Bool):evW 2 (OV F D) F a32 (some [.agg [.i .i64 a0_N,.vs a0_Stab.length .unk (enc Pl.cells a0_Stab),.vs a0_Destab.length .unk (enc Pl.cells a0_Destab)],.agg [.i .i64 a1_N,.vs a1_Stab.length .unk (enc Pl.cells a1_Stab),.vs a1_Destab.length .unk (enc Pl.cells a1_Destab)],.agg [.i .i64 a2_N,.i .u64 (U a2_X),.i .u64 (U a2_Z),.i .i64 a2_Phase],.vs a3.length .unk (enc c3 a3)]) q G0 =
 match Plaw14_tells F a0_N a0_Stab a0_Destab a1_N a1_Stab a1_Destab a2_N a2_X a2_Z a2_Phase a3 with|none=>none|some r0=>some (.b r0,none):=by
 obtain ⟨D,rfl⟩:=dex hD
 have claw14_num0:=elaw14_num (D+6) (by omega) F
 have cref14_Alike0:=eref14_Alike (D+6) (by omega) F
 have ctb_Cut0:=etb_Cut (D+6) (by omega) F
 have ctb_Member0:=etb_Member (D+6) (by omega) F
 have cref14_SameRows0:=eref14_SameRows (D+6) (by omega) F
 have ctb_Canono0:=etb_Canono (D+6) (by omega) F
 have cref14_Member0:=eref14_Member (D+6) (by omega) F
 have cref14_Cut0:=eref14_Cut (D+6) (by omega) F
 have cref14_Canon0:=eref14_Canon (D+6) (by omega) F
 have cref14_SameRows0_0:=fun a1=>eref14_SameRows (D+6) (by omega) F [] a1
 simp only [List.length_nil,enc_nil] at cref14_SameRows0_0
 rw [evW_some,G0]
 simp only [Plaw14_tells]
 simp -implicitDefEqProofs (maxSteps:=4000000) only [*,a32,vlaw14_num,vref14_Alike,vtb_Cut,vtb_Member,vref14_SameRows,vtb_Canono,vref14_Member,vref14_Cut,vref14_Canon,runC_loop,EVA.down,ne_eq,seval]
 rw [llaw14_tellsL0 (D+7) (by omega) F a3 a0_N a0_Stab a0_Destab a1_N a1_Stab a1_Destab a2_N a2_X a2_Z a2_Phase _ F ((-1):Int) _ (by simp only [*,a32,vlaw14_num,vref14_Alike,vtb_Cut,vtb_Member,vref14_SameRows,vtb_Canono,vref14_Member,vref14_Cut,vref14_Canon,EVA.down,ne_eq,seval];try rfl)]
 rcases h1:(Plaw14_tellsL0 F a3 a0_N a0_Stab a0_Destab a1_N a1_Stab a1_Destab a2_N a2_X a2_Z a2_Phase F ((-1):Int)) with _|(_|_)
 rotate_left
 rotate_left
 rcases h2:(Ptb_Member F a0_N a0_Stab a0_Destab a2_N a2_X a2_Z a2_Phase) with _|⟨r1,r2⟩
 rotate_left
 rcases h3:(Pref14_Member F a1_N a1_Stab a1_Destab a2_N a2_X a2_Z a2_Phase) with _|⟨r3,r4⟩
 rotate_left
 rcases h4:(Ptb_Cut F a0_N a0_Stab a0_Destab a3) with _|⟨r5,r6⟩
 rotate_left
 rcases h5:(Pref14_Cut F a1_N a1_Stab a1_Destab a3) with _|⟨r7,r8⟩
 rotate_left
 rcases h6:(Ptb_Canon F a0_N a0_Stab a0_Destab) with _|⟨r9,r10⟩
 rotate_left
 by_cases h7:r9=[]
 replace h7:=eq_true h7
 rcases h8:(Pref14_Canon F a1_N a1_Stab a1_Destab) with _|⟨r11,r12⟩
 rotate_left
 by_cases h9:r1=r3
 replace h9:=eq_true h9
 by_cases h10:(Plaw14_num r2)=r4
 replace h10:=eq_true h10
 by_cases h11:r5=r7
 replace h11:=eq_true h11
 by_cases h12:(Plaw14_num r6)=r8
 replace h12:=eq_true h12
 by_cases h13:(Plaw14_num r10)=r12
 replace h13:=eq_true h13
 rcases h14:(Pref14_SameRows F ([]) r11) with _|r13
 rotate_left
 rcases h15:(r13) with _|_
 rotate_left
 simp -implicitDefEqProofs (maxSteps:=4000000) only [*,a32,vlaw14_num,vref14_Alike,vtb_Cut,vtb_Member,vref14_SameRows,vtb_Canono,vref14_Member,vref14_Cut,vref14_Canon,runC_loop,EVA.down,ne_eq,seval]
 rw [llaw14_tellsL1 (D+7) (by omega) F ([]) 0 a0_N a0_Stab a0_Destab a1_N a1_Stab a1_Destab _ F  _ (by simp only [*,a32,vlaw14_num,vref14_Alike,vtb_Cut,vtb_Member,vref14_SameRows,vtb_Canono,vref14_Member,vref14_Cut,vref14_Canon,EVA.down,ne_eq,seval];try rfl)]
 rcases h16:(Plaw14_tellsL1 ([]) 0 a0_N a0_Stab a0_Destab a1_N a1_Stab a1_Destab F) with _|_
 rotate_left
 rcases h17:(Pref14_Alike F a0_N a0_Stab a0_Destab a1_N a1_Stab a1_Destab) with _|r14
 rotate_left
 rotate_left
 rotate_left
 rotate_left
 rotate_left
 rotate_left
 rotate_left
 rcases h18:(Pref14_Canon F a1_N a1_Stab a1_Destab) with _|⟨r15,r16⟩
 rotate_left
 by_cases h19:r1=r3
 replace h19:=eq_true h19
 by_cases h20:(Plaw14_num r2)=r4
 replace h20:=eq_true h20
 by_cases h21:r5=r7
 replace h21:=eq_true h21
 by_cases h22:(Plaw14_num r6)=r8
 replace h22:=eq_true h22
 by_cases h23:(Plaw14_num r10)=r16
 replace h23:=eq_true h23
 rcases h24:(Pref14_SameRows F r9 r15) with _|r17
 rotate_left
 rcases h25:(r17) with _|_
 rotate_left
 simp -implicitDefEqProofs (maxSteps:=4000000) only [*,a32,vlaw14_num,vref14_Alike,vtb_Cut,vtb_Member,vref14_SameRows,vtb_Canono,vref14_Member,vref14_Cut,vref14_Canon,runC_loop,EVA.down,ne_eq,seval]
 rw [llaw14_tellsL2 (D+7) (by omega) F a0_N a0_Stab a0_Destab a1_N a1_Stab a1_Destab _ F 0 r9 _ (by simp only [*,a32,vlaw14_num,vref14_Alike,vtb_Cut,vtb_Member,vref14_SameRows,vtb_Canono,vref14_Member,vref14_Cut,vref14_Canon,EVA.down,ne_eq,seval];try rfl)]
 rcases h26:(Plaw14_tellsL2 a0_N a0_Stab a0_Destab a1_N a1_Stab a1_Destab F 0 r9) with _|_
 rotate_left
 rcases h27:(Pref14_Alike F a0_N a0_Stab a0_Destab a1_N a1_Stab a1_Destab) with _|r18
 all_goals simp -implicitDefEqProofs (maxSteps:=4000000) only [*,a32,vlaw14_num,vref14_Alike,vtb_Cut,vtb_Member,vref14_SameRows,vtb_Canono,vref14_Member,vref14_Cut,vref14_Canon,EVA.down,ne_eq,seval]
theorem vlaw14_tells {D F n:Nat}{args:List AV}{h:AHeap}:OV F (D+1) 32 args h n (n+1)=evW 2 (OV F D) F a32 (frzs (frz true 0 (bif AV.nors args then [] else h) 8) args) (AV.nors args) (hglb h 2):=evV_frozen rfl
theorem elaw14_TableauHands (D:Nat)(hD:10≤D)(F:Nat)(a0_N:Int)(a0_Stab a0_Destab:List Pl)(a1_N:Int)(a1_Stab a1_Destab:List Pl)(a2_Kind a2_Gate:Int)(a2_Q:List Int)(a2_Value a3_N:Int)(a3_X a3_Z:BitVec 64)(a3_Phase:Int)(a4:List Int)(q:Bool):evW 2 (OV F D) F a9 (some [.agg [.i .i64 a0_N,.vs a0_Stab.length .unk (enc Pl.cells a0_Stab),.vs a0_Destab.length .unk (enc Pl.cells a0_Destab)],.agg [.i .i64 a1_N,.vs a1_Stab.length .unk (enc Pl.cells a1_Stab),.vs a1_Destab.length .unk (enc Pl.cells a1_Destab)],.agg [.i .i64 a2_Kind,.i .i64 a2_Gate,.vs a2_Q.length .unk (enc c3 a2_Q),.i .i64 a2_Value],.agg [.i .i64 a3_N,.i .u64 (U a3_X),.i .u64 (U a3_Z),.i .i64 a3_Phase],.vs a4.length .unk (enc c3 a4)]) q G0 =
 match Plaw14_TableauHands F a0_N a0_Stab a0_Destab a1_N a1_Stab a1_Destab a2_Kind a2_Gate a2_Q a2_Value a3_N a3_X a3_Z a3_Phase a4 with|none=>none|some r0=>some (.b r0,none):=by
 obtain ⟨D,rfl⟩:=dex hD
 have claw14_num0:=elaw14_num (D+9) (by omega) F
 have cref14_Alike0:=eref14_Alike (D+9) (by omega) F
 have ctb_Same0:=etb_Same (D+9) (by omega) F
 have claw14_done0:=elaw14_done (D+9) (by omega) F
 have claw14_tells0:=elaw14_tells (D+9) (by omega) F
 have ctb_Kron0:=etb_Kron (D+9) (by omega) F
 have cref14_Kron0:=eref14_Kron (D+9) (by omega) F
 have cref14_Same0:=eref14_Same (D+9) (by omega) F
 rw [evW_some,G0]
 simp only [Plaw14_TableauHands]
 rcases h1:(Plaw14_done F a0_N a0_Stab a0_Destab a0_N a0_Stab a0_Destab a2_Kind a2_Gate a2_Q a2_Value) with _|⟨r1,r2,r3,r4,r5,r6,r7⟩
 rotate_left
 rcases h2:(Ptb_Kron F a0_N a0_Stab a0_Destab a1_N a1_Stab a1_Destab) with _|⟨r8,r9,r10,r11⟩
 rotate_left
 rcases h3:(Pref14_Kron F a0_N a0_Stab a0_Destab a1_N a1_Stab a1_Destab) with _|⟨r12,r13,r14,r15⟩
 rotate_left
 rcases h4:(r7) with _|_
 rotate_left
 by_cases h5:(Plaw14_num r11)=r15
 replace h5:=eq_true h5
 rcases h6:(Pref14_Alike F r8 r9 r10 r12 r13 r14) with _|r16
 rotate_left
 rcases h7:(r16) with _|_
 rotate_left
 rcases h8:(Ptb_Same F a0_N a0_Stab a0_Destab a1_N a1_Stab a1_Destab) with _|r17
 rotate_left
 rcases h9:(Pref14_Same F a0_N a0_Stab a0_Destab a1_N a1_Stab a1_Destab) with _|r18
 rotate_left
 rcases h10:(r18) with _|_
 rcases h11:(r17) with _|_
 rcases h12:(Plaw14_tells F a0_N a0_Stab a0_Destab a0_N a0_Stab a0_Destab a3_N a3_X a3_Z a3_Phase a4) with _|r20
 rotate_left
 rcases h13:(r20) with _|_
 rotate_left
 rotate_left
 rotate_left
 rcases h14:(r17) with _|_
 rotate_left
 rcases h15:(Plaw14_tells F a0_N a0_Stab a0_Destab a0_N a0_Stab a0_Destab a3_N a3_X a3_Z a3_Phase a4) with _|r19
 rotate_left
 rcases h16:(r19) with _|_
 all_goals simp -implicitDefEqProofs (maxSteps:=4000000) only [*,a9,vlaw14_num,vref14_Alike,vtb_Same,vlaw14_done,vlaw14_tells,vtb_Kron,vref14_Kron,vref14_Same,k16,EVA.down,ne_eq,seval]
theorem vlaw14_TableauHands {D F n:Nat}{args:List AV}{h:AHeap}:OV F (D+1) 9 args h n (n+1)=evW 2 (OV F D) F a9 (frzs (frz true 0 (bif AV.nors args then [] else h) 8) args) (AV.nors args) (hglb h 2):=evV_frozen rfl
end Go.Proofs.YtogkkamlmklpkaaDoor.Ab
