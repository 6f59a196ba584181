/- Functions of the program as plain functions, and that the abstract machine's evaluation comes to them. Written by G.py. No condition. -/
import Derived.Test.YtogkkamlmklpkaaDoorH5
set_option maxRecDepth 100000
set_option maxHeartbeats 4000000
set_option linter.unusedVariables false
set_option linter.unusedSimpArgs false
namespace Go.Proofs.YtogkkamlmklpkaaDoor.Ab
open Go
theorem lref14_KronL3 (D:Nat)(hD:0≤D)(F:Nat)(K:AE→AS→Option Res):∀ (f:Nat) (v0 v1 v2:Int) (v3 v4:List Pl) (v5:Int) (v6 v7:List Pl) (v8 v9:Int) (v10 v11:List Pl) (s:AS),s.keepG 2 [2,3,4,6,7,8] [2,3,4,7]=some ⟨[(2,.lp 2 0),(3,.lp 3 0),(4,.lp 4 0),(6,.i .i64 v0),(7,.lp 7 0),(8,.i .i64 v1)],[(2,[.i .i64 v2,.vs v3.length .unk (enc Pl.cells v3),.vs v4.length .unk (enc Pl.cells v4)]),(3,[.i .i64 v5,.vs v6.length .unk (enc Pl.cells v6),.vs v7.length .unk (enc Pl.cells v7)]),(4,[.i .i64 v8,.sl none 0 (.ex 0),.sl none 0 (.ex 0)]),(7,[.i .i64 v9,.sl (some (2,0)) v10.length .op,.sl (some (3,0)) v11.length .op])],[(2,⟨true,true,39,4,enc Pl.cells v10⟩),(3,⟨true,true,39,4,enc Pl.cells v11⟩),(0,tab64)],4⟩→
 evLoop (evC (OV F D) 2 F a34L1) f s K=match Pref14_KronL3 F f v0 v1 v2 v3 v4 v5 v6 v7 v8 v9 v10 v11 with|none=>none|some (.inl (y0,y1))=>K (.ex 0) ⟨[(4,.lp 4 0),(7,.lp 7 0)],[(4,[.i .i64 y0,.sl none 0 (.ex 0),.sl none 0 (.ex 0)]),(7,[.i .i64 y1,.sl none 0 (.ex 0),.sl none 0 (.ex 0)])],[(0,tab64)],2⟩|some (.inr (y0,y1,y2,y3))=>K (.ex 0) ⟨[(4,.lp 4 0),(7,.lp 7 0)],[(4,[.i .i64 y0,.sl none 0 (.ex 0),.sl none 0 (.ex 0)]),(7,[.i .i64 y1,.sl (some (2,0)) y2.length .op,.sl (some (3,0)) y3.length .op])],[(2,⟨true,true,39,4,enc Pl.cells y2⟩),(3,⟨true,true,39,4,enc Pl.cells y3⟩),(0,tab64)],4⟩:=by
 intro f
 induction f with
 |zero=>intro v0 v1 v2 v3 v4 v5 v6 v7 v8 v9 v10 v11 s hs;simp only [evLoop,Pref14_KronL3]
 |succ f ih=>
 intro v0 v1 v2 v3 v4 v5 v6 v7 v8 v9 v10 v11 s hs
 obtain ⟨k0,hk,hn,he,hr⟩:=@lk_all (OV F (D)) 2 F a34L1 f K
 rw [loop_succ,hk,a34L1,runC_cutg,hs]
 clear hs
 simp only [Pref14_KronL3]
 clear hk
 by_cases h1:v1<2
 by_cases h2:v1=1
 replace h2:=eq_true h2
 simp -implicitDefEqProofs only [*,-ih,runC_loop,EVA.down,ne_eq,seval]
 rw [lref14_KronL2 (D) (by omega) F v0 v1 (BitVec.ofInt 64 v5) v2 v3 v4 v5 v6 v7 v8 v9 v2 v3 v4 _ F 0 v10 v11 _ (by simp only [*,-ih,EVA.down,ne_eq,seval];try rfl)]
 rcases h3:(Pref14_KronL2 v0 v1 (BitVec.ofInt 64 v5) v2 v3 v4 v5 v6 v7 v8 v9 v2 v3 v4 F 0 v10 v11) with _|⟨y1,y2⟩
 rotate_left
 rotate_left
 simp -implicitDefEqProofs only [*,-ih,runC_loop,EVA.down,ne_eq,seval]
 rw [lref14_KronL2 (D) (by omega) F v0 v1 0#64 v2 v3 v4 v5 v6 v7 v8 v9 v5 v6 v7 _ F 0 v10 v11 _ (by simp only [*,-ih,EVA.down,ne_eq,seval];try rfl)]
 rcases h4:(Pref14_KronL2 v0 v1 0#64 v2 v3 v4 v5 v6 v7 v8 v9 v5 v6 v7 F 0 v10 v11) with _|⟨y3,y4⟩
 all_goals simp -implicitDefEqProofs only [*,-ih,EVA.down,ne_eq,seval]
 all_goals exact ih _ _ _ _ _ _ _ _ _ _ _ _ _ (by simp only [*,-ih,EVA.down,ne_eq,seval])
theorem lref14_KronL4 (D:Nat)(hD:0≤D)(F:Nat)(K:AE→AS→Option Res):∀ (f:Nat) (v0 v1 v2:Int) (v3 v4:List Pl) (v5:Int) (v6 v7:List Pl) (v8 v9:Int) (s:AS),s.keepG 2 [2,3,4,6,7,8] [2,3,4,7]=some ⟨[(2,.lp 2 0),(3,.lp 3 0),(4,.lp 4 0),(6,.i .i64 v0),(7,.lp 7 0),(8,.i .i64 v1)],[(2,[.i .i64 v2,.vs v3.length .unk (enc Pl.cells v3),.vs v4.length .unk (enc Pl.cells v4)]),(3,[.i .i64 v5,.vs v6.length .unk (enc Pl.cells v6),.vs v7.length .unk (enc Pl.cells v7)]),(4,[.i .i64 v8,.sl none 0 (.ex 0),.sl none 0 (.ex 0)]),(7,[.i .i64 v9,.sl none 0 (.ex 0),.sl none 0 (.ex 0)])],[(0,tab64)],2⟩→
 evLoop (evC (OV F D) 2 F a34L1) f s K=match Pref14_KronL4 F f v0 v1 v2 v3 v4 v5 v6 v7 v8 v9 with|none=>none|some (.inl (y0,y1))=>K (.ex 0) ⟨[(4,.lp 4 0),(7,.lp 7 0)],[(4,[.i .i64 y0,.sl none 0 (.ex 0),.sl none 0 (.ex 0)]),(7,[.i .i64 y1,.sl none 0 (.ex 0),.sl none 0 (.ex 0)])],[(0,tab64)],2⟩|some (.inr (y0,y1,y2,y3))=>K (.ex 0) ⟨[(4,.lp 4 0),(7,.lp 7 0)],[(4,[.i .i64 y0,.sl none 0 (.ex 0),.sl none 0 (.ex 0)]),(7,[.i .i64 y1,.sl (some (2,0)) y2.length .op,.sl (some (3,0)) y3.length .op])],[(2,⟨true,true,39,4,enc Pl.cells y2⟩),(3,⟨true,true,39,4,enc Pl.cells y3⟩),(0,tab64)],4⟩:=by
 have nlref14_KronL3:=lref14_KronL3 (D) (by omega) F K
 intro f
 induction f with
 |zero=>intro v0 v1 v2 v3 v4 v5 v6 v7 v8 v9 s hs;simp only [evLoop,Pref14_KronL4]
 |succ f ih=>
 intro v0 v1 v2 v3 v4 v5 v6 v7 v8 v9 s hs
 obtain ⟨k0,hk,hn,he,hr⟩:=@lk_all (OV F (D)) 2 F a34L1 f K
 rw [loop_succ,hk,a34L1,runC_cutg,hs]
 clear hs
 simp only [Pref14_KronL4]
 clear hk
 by_cases h1:v1<2
 by_cases h2:v1=1
 replace h2:=eq_true h2
 simp -implicitDefEqProofs only [*,-ih,runC_loop,EVA.down,ne_eq,seval]
 rw [lref14_KronL1 (D) (by omega) F  _ F v0 v1 (BitVec.ofInt 64 v5) 0 v2 v3 v4 v5 v6 v7 v8 v9 v2 v3 v4 _ (by simp only [*,-ih,EVA.down,ne_eq,seval];try rfl)]
 rcases h3:(Pref14_KronL1 F v0 v1 (BitVec.ofInt 64 v5) 0 v2 v3 v4 v5 v6 v7 v8 v9 v2 v3 v4) with _|(⟨y1,y2,y3,y4,y5,y6,y7,y8,y9,y10⟩|⟨y11,y12,y13,y14,y15,y16,y17,y18,y19,y20,y21,y22⟩)
 rotate_left
 rotate_left
 rotate_left
 simp -implicitDefEqProofs only [*,-ih,runC_loop,EVA.down,ne_eq,seval]
 rw [lref14_KronL1 (D) (by omega) F  _ F v0 v1 0#64 0 v2 v3 v4 v5 v6 v7 v8 v9 v5 v6 v7 _ (by simp only [*,-ih,EVA.down,ne_eq,seval];try rfl)]
 rcases h4:(Pref14_KronL1 F v0 v1 0#64 0 v2 v3 v4 v5 v6 v7 v8 v9 v5 v6 v7) with _|(⟨y23,y24,y25,y26,y27,y28,y29,y30,y31,y32⟩|⟨y33,y34,y35,y36,y37,y38,y39,y40,y41,y42,y43,y44⟩)
 all_goals simp -implicitDefEqProofs only [*,-ih,EVA.down,ne_eq,seval]
 all_goals first|exact ih _ _ _ _ _ _ _ _ _ _ _ (by simp only [*,-ih,EVA.down,ne_eq,seval])|exact nlref14_KronL3 f _ _ _ _ _ _ _ _ _ _ _ _ _ (by simp only [*,-ih,EVA.down,ne_eq,seval])
theorem eref14_Kron (D:Nat)(hD:3≤D)(F:Nat)(a0_N:Int)(a0_Stab a0_Destab:List Pl)(a1_N:Int)(a1_Stab a1_Destab:List Pl)(q:Bool):evW 2 (OV F D) F a34 (some [.agg [.i .i64 a0_N,.vs a0_Stab.length .unk (enc Pl.cells a0_Stab),.vs a0_Destab.length .unk (enc Pl.cells a0_Destab)],.agg [.i .i64 a1_N,.vs a1_Stab.length .unk (enc Pl.cells a1_Stab),.vs a1_Destab.length .unk (enc Pl.cells a1_Destab)]]) q G0 =
 match Pref14_Kron F a0_N a0_Stab a0_Destab a1_N a1_Stab a1_Destab with|none=>none|some (r0,r1,r2,r3)=>some (.tup [.agg [.i .i64 r0,.vs r1.length .unk (enc Pl.cells r1),.vs r2.length .unk (enc Pl.cells r2)],.i .i64 r3],none):=by
 obtain ⟨D,rfl⟩:=dex hD
 have cref14_Right0:=eref14_Right (D+2) (by omega) F
 rw [evW_some,G0]
 simp only [Pref14_Kron]
 rcases h1:(Pref14_Right F a0_N a0_Stab a0_Destab) with _|r1
 rotate_left
 rcases h2:(r1) with _|_
 rotate_left
 rcases h3:(Pref14_Right F a1_N a1_Stab a1_Destab) with _|r2
 rotate_left
 rcases h4:(r2) with _|_
 rotate_left
 by_cases h5:(IntKind.i64.wrap (a0_N+a1_N))>64
 rotate_left
 simp -implicitDefEqProofs only [*,a34,vref14_Right,runC_loop,EVA.down,ne_eq,seval]
 rw [lref14_KronL4 (D+3) (by omega) F  _ F (IntKind.i64.wrap (a0_N+a1_N)) 0 a0_N a0_Stab a0_Destab a1_N a1_Stab a1_Destab 0 (IntKind.i64.wrap (a0_N+a1_N)) _ (by simp only [*,a34,vref14_Right,EVA.down,ne_eq,seval];try rfl)]
 rcases h6:(Pref14_KronL4 F F (IntKind.i64.wrap (a0_N+a1_N)) 0 a0_N a0_Stab a0_Destab a1_N a1_Stab a1_Destab 0 (IntKind.i64.wrap (a0_N+a1_N))) with _|(⟨y3,y4⟩|⟨y5,y6,y7,y8⟩)
 all_goals simp -implicitDefEqProofs only [*,a34,vref14_Right,EVA.down,ne_eq,seval]
theorem vref14_Kron {D F n:Nat}{args:List AV}{h:AHeap}:OV F (D+1) 34 args h n (n+1)=evW 2 (OV F D) F a34 (frzs (frz true 0 (bif AV.nors args then [] else h) 8) args) (AV.nors args) (hglb h 2):=evV_frozen rfl
theorem elaw14_done (D:Nat)(hD:9≤D)(F:Nat)(a0_N:Int)(a0_Stab a0_Destab:List Pl)(a1_N:Int)(a1_Stab a1_Destab:List Pl)(a2_Kind a2_Gate:Int)(a2_Q:List Int)(a2_Value:Int):evW 2 (OV F D) F a31 (some [.agg [.i .i64 a0_N,.vs a0_Stab.length .unk (enc Pl.cells a0_Stab),.vs a0_Destab.length .unk (enc Pl.cells a0_Destab)],.agg [.i .i64 a1_N,.vs a1_Stab.length .unk (enc Pl.cells a1_Stab),.vs a1_Destab.length .unk (enc Pl.cells a1_Destab)],.agg [.i .i64 a2_Kind,.i .i64 a2_Gate,.vs a2_Q.length .unk (enc c3 a2_Q),.i .i64 a2_Value]]) true G0 =
 match Plaw14_done F a0_N a0_Stab a0_Destab a1_N a1_Stab a1_Destab a2_Kind a2_Gate a2_Q a2_Value with|none=>none|some (r0,r1,r2,r3,r4,r5,r6)=>some (.tup [.agg [.i .i64 r0,.vs r1.length .unk (enc Pl.cells r1),.vs r2.length .unk (enc Pl.cells r2)],.agg [.i .i64 r3,.vs r4.length .unk (enc Pl.cells r4),.vs r5.length .unk (enc Pl.cells r5)],.b r6],none):=by
 obtain ⟨D,rfl⟩:=dex hD
 have ctb_New0:=etb_New (D+8) (by omega) F
 have cref14_New0:=eref14_New (D+8) (by omega) F
 have claw14_num0:=elaw14_num (D+8) (by omega) F
 have cref14_Alike0:=eref14_Alike (D+8) (by omega) F
 have ctb_Gate0:=etb_Gate (D+8) (by omega) F
 have ctb_Project0:=etb_Project (D+8) (by omega) F
 have ctb_Kron0:=etb_Kron (D+8) (by omega) F
 have cref14_Kron0:=eref14_Kron (D+8) (by omega) F
 have ctb_Settle0:=etb_Settle (D+8) (by omega) F
 have cref14_Gate0:=eref14_Gate (D+8) (by omega) F
 have claw14_first0:=elaw14_first (D+8) (by omega) F
 have cref14_Project0:=eref14_Project (D+8) (by omega) F
 have cref14_Settle0:=eref14_Settle (D+8) (by omega) F
 have ctb_Order0:=etb_Order (D+8) (by omega) F
 have cref14_Order0:=eref14_Order (D+8) (by omega) F
 rw [evW_some,G0]
 simp only [Plaw14_done]
 by_cases h1:a2_Kind=1
 replace h1:=eq_true h1
 rcases h2:(Ptb_Gate F a0_N a0_Stab a0_Destab a2_Gate a2_Q) with _|⟨r1,r2,r3,r4⟩
 rotate_left
 rcases h3:(Pref14_Gate F a1_N a1_Stab a1_Destab a2_Gate a2_Q) with _|⟨r5,r6,r7,r8⟩
 rotate_left
 by_cases h4:(Plaw14_num r4)=r8
 replace h4:=eq_true h4
 rcases h5:(Pref14_Alike F r1 r2 r3 r5 r6 r7) with _|r9
 rotate_left
 rcases h6:(r9) with _|_
 rotate_left
 by_cases h7:(Plaw14_num r4)=0
 replace h7:=eq_true h7
 rotate_left
 rotate_left
 rotate_left
 by_cases h8:a2_Kind=2
 replace h8:=eq_true h8
 rcases h9:(Plaw14_first a2_Q) with _|r10
 rotate_left
 rcases h10:(Ptb_Project F a0_N a0_Stab a0_Destab r10 a2_Value) with _|⟨r11,r12,r13,r14⟩
 rotate_left
 rcases h11:(Pref14_Project F a1_N a1_Stab a1_Destab r10 a2_Value) with _|⟨r15,r16,r17,r18⟩
 rotate_left
 by_cases h12:(Plaw14_num r14)=r18
 replace h12:=eq_true h12
 rcases h13:(Pref14_Alike F r11 r12 r13 r15 r16 r17) with _|r19
 rotate_left
 rcases h14:(r19) with _|_
 rotate_left
 by_cases h15:(Plaw14_num r14)=0
 replace h15:=eq_true h15
 rotate_left
 rotate_left
 rotate_left
 by_cases h16:a2_Kind=3
 replace h16:=eq_true h16
 rcases h17:(Plaw14_first a2_Q) with _|r20
 rotate_left
 rcases h18:(Ptb_Settle F a0_N a0_Stab a0_Destab r20 a2_Value) with _|⟨r21,r22,r23,r24⟩
 rotate_left
 rcases h19:(Pref14_Settle F a1_N a1_Stab a1_Destab r20 a2_Value) with _|⟨r25,r26,r27,r28⟩
 rotate_left
 by_cases h20:(Plaw14_num r24)=r28
 replace h20:=eq_true h20
 rcases h21:(Pref14_Alike F r21 r22 r23 r25 r26 r27) with _|r29
 rotate_left
 rcases h22:(r29) with _|_
 rotate_left
 by_cases h23:(Plaw14_num r24)=0
 replace h23:=eq_true h23
 rotate_left
 rotate_left
 rotate_left
 by_cases h24:a2_Kind=4
 replace h24:=eq_true h24
 rcases h25:(Ptb_Order F a0_N a0_Stab a0_Destab a2_Q) with _|⟨r30,r31,r32,r33⟩
 rotate_left
 rcases h26:(Pref14_Order F a1_N a1_Stab a1_Destab a2_Q) with _|⟨r34,r35,r36,r37⟩
 rotate_left
 by_cases h27:(Plaw14_num r33)=r37
 replace h27:=eq_true h27
 rcases h28:(Pref14_Alike F r30 r31 r32 r34 r35 r36) with _|r38
 rotate_left
 rcases h29:(r38) with _|_
 rotate_left
 by_cases h30:(Plaw14_num r33)=0
 replace h30:=eq_true h30
 rotate_left
 rotate_left
 rotate_left
 by_cases h31:a2_Kind=5
 replace h31:=eq_true h31
 rcases h32:(Ptb_New F a2_Value) with _|⟨r39,r40,r41,r42⟩
 rotate_left
 rcases h33:(Pref14_New F a2_Value) with _|⟨r43,r44,r45,r46⟩
 rotate_left
 rcases h34:(Ptb_Kron F r39 r40 r41 a0_N a0_Stab a0_Destab) with _|⟨r47,r48,r49,r50⟩
 rotate_left
 rcases h35:(Pref14_Kron F r43 r44 r45 a1_N a1_Stab a1_Destab) with _|⟨r51,r52,r53,r54⟩
 rotate_left
 by_cases h36:(Plaw14_num r50)=r54
 replace h36:=eq_true h36
 rcases h37:(Pref14_Alike F r47 r48 r49 r51 r52 r53) with _|r55
 rotate_left
 rcases h38:(r55) with _|_
 rotate_left
 by_cases h39:(Plaw14_num r50)=0
 replace h39:=eq_true h39
 rotate_left
 rotate_left
 rotate_left
 by_cases h40:((Plaw14_num 0))=0
 replace h40:=eq_true h40
 rcases h41:(Pref14_Alike F a0_N a0_Stab a0_Destab a1_N a1_Stab a1_Destab) with _|r56
 rotate_left
 rcases h42:(r56) with _|_
 all_goals simp -implicitDefEqProofs (maxSteps:=4000000) only [*,a31,vtb_New,vref14_New,vlaw14_num,vref14_Alike,vtb_Gate,vtb_Project,vtb_Kron,vref14_Kron,vtb_Settle,vref14_Gate,vlaw14_first,vref14_Project,vref14_Settle,vtb_Order,vref14_Order,EVA.down,ne_eq,seval]
theorem vlaw14_done {D F n:Nat}{args:List AV}{h:AHeap}:OV F (D+1) 31 args h n (n+1)=evW 2 (OV F D) F a31 (frzs (frz true 0 (bif AV.nors args then [] else h) 8) args) (AV.nors args) (hglb h 2):=evV_frozen rfl
theorem etb_column (D:Nat)(hD:0≤D)(F:Nat)(a0_N:Int)(a0_X a0_Z:BitVec 64)(a0_Phase a1:Int)(q:Bool):evW 2 (OV F D) F a85 (some [.agg [.i .i64 a0_N,.i .u64 (U a0_X),.i .u64 (U a0_Z),.i .i64 a0_Phase],.i .i64 a1]) q G0 =
 match Ptb_column a0_N a0_X a0_Z a0_Phase a1 with|none=>none|some r0=>some (.i .u64 (U r0),none):=by
 rw [evW_some,G0]
 simp only [Ptb_column]
 by_cases h1:a1<a0_N
 by_cases h2:a1<0
 rotate_left
 rotate_left
 by_cases h3:(IntKind.i64.wrap (a1-a0_N))<0
 all_goals simp -implicitDefEqProofs only [*,a85,EVA.down,ne_eq,seval]
theorem vtb_column {D F n:Nat}{args:List AV}{h:AHeap}:OV F (D+1) 85 args h n (n+1)=evW 2 (OV F D) F a85 (frzs (frz true 0 (bif AV.nors args then [] else h) 8) args) (AV.nors args) (hglb h 2):=evV_frozen rfl
theorem ltb_echelonL0 (D:Nat)(hD:1≤D)(F:Nat)(v0:List Pl)(v1 v2 v5 v6:Int)(K:AE→AS→Option Res):∀ (f:Nat) (v3 v4:Int) (s:AS),s.keepG 2 [0,5,6,7,8,13,14] []=some ⟨[(0,.vs v0.length .unk (enc Pl.cells v0)),(5,.i .i64 v1),(6,.i .i64 v2),(7,.i .i64 v3),(8,.i .i64 v4),(13,.i .i64 v5),(14,.i .i64 v6)],[],[(0,tab64)],2⟩→
 evLoop (evC (OV F D) 2 F a55L0) f s K=match Ptb_echelonL0 v0 v1 v2 v5 v6 f v3 v4 with|none=>none|some (y0)=>K (.ex 2) ⟨[(0,.vs v0.length .unk (enc Pl.cells v0)),(5,.i .i64 v1),(6,.i .i64 v2),(7,.i .i64 y0),(13,.i .i64 v5),(14,.i .i64 v6)],[],[(0,tab64)],2⟩:=by
 obtain ⟨D,rfl⟩:=dex hD
 have ctb_column0:=etb_column (D) (by omega) F
 intro f
 induction f with
 |zero=>intro v3 v4 s hs;simp only [evLoop,Ptb_echelonL0]
 |succ f ih=>
 intro v3 v4 s hs
 obtain ⟨k0,hk,hn,he,hr⟩:=@lk_all (OV F (D+1)) 2 F a55L0 f K
 rw [loop_succ,hk,a55L0,runC_cutg,hs]
 clear hs
 simp only [Ptb_echelonL0]
 clear hk
 by_cases h1:v4<(v0.length:Int)
 by_cases h2:v3<0
 rcases ixo (@pk_Pl_cells v0 v4) with h3|⟨x1,h3⟩
 rotate_left
 rcases h4:(Ptb_column x1.N x1.X x1.Z x1.Ph v2) with _|r2
 rotate_left
 by_cases h5:r2=1#64
 replace h5:=eq_true h5
 all_goals simp -implicitDefEqProofs only [*,-ih,vtb_column,EVA.down,ne_eq,seval]
 all_goals exact ih _ _ _ (by simp only [*,-ih,vtb_column,EVA.down,ne_eq,seval])
theorem ltb_echelonL1 (D:Nat)(hD:1≤D)(F:Nat)(v0:List Pl)(v1 v2:Int)(K:AE→AS→Option Res):∀ (f:Nat) (v3:Int) (s:AS),s.keepG 2 [0,5,13,14] []=some ⟨[(0,.vs v0.length .unk (enc Pl.cells v0)),(5,.i .i64 v1),(13,.i .i64 v2),(14,.i .i64 v3)],[],[(0,tab64)],2⟩→
 evLoop (evC (OV F D) 2 F a55L2) f s K=match Ptb_echelonL1 F v0 v1 v2 f v3 with|none=>none|some (_)=>K (.ex 0) ⟨[(0,.vs v0.length .unk (enc Pl.cells v0))],[],[(0,tab64)],2⟩:=by
 obtain ⟨D,rfl⟩:=dex hD
 intro f
 induction f with
 |zero=>intro v3 s hs;simp only [evLoop,Ptb_echelonL1]
 |succ f ih=>
 intro v3 s hs
 obtain ⟨k0,hk,hn,he,hr⟩:=@lk_all (OV F (D+1)) 2 F a55L2 f K
 rw [loop_succ,hk,a55L2,runC_cutg,hs]
 clear hs
 simp only [Ptb_echelonL1]
 clear hk
 by_cases h1:v3<v2
 simp -implicitDefEqProofs only [*,-ih,runC_loop,EVA.down,ne_eq,seval]
 rw [ltb_echelonL0 (D+1) (by omega) F v0 v1 v3 v2 v3 _ F ((-1):Int) v1 _ (by simp only [*,-ih,EVA.down,ne_eq,seval];try rfl)]
 rcases h2:(Ptb_echelonL0 v0 v1 v3 v2 v3 F ((-1):Int) v1) with _|y1
 rotate_left
 by_cases h3:y1<0
 rotate_left
 rcases ixo (@pk_Pl_cells v0 y1) with h4|⟨x2,h4⟩
 rotate_left
 rcases ixo (@pk_Pl_cells v0 v1) with h5|⟨x3,h5⟩
 all_goals simp -implicitDefEqProofs only [*,-ih,EVA.down,ne_eq,seval]
 all_goals exact ih _ _ (by simp only [*,-ih,EVA.down,ne_eq,seval])
theorem ltb_echelonL2 (D:Nat)(hD:1≤D)(F:Nat)(v0 v1 v4 v5:Int)(v6:List Pl)(K:AE→AS→Option Res):∀ (f:Nat) (v2 v3:Int) (s:AS),s.keepG 2 [0,5,6,7,8,13,14] []=some ⟨[(0,.sl (some (2,0)) v6.length .op),(5,.i .i64 v0),(6,.i .i64 v1),(7,.i .i64 v2),(8,.i .i64 v3),(13,.i .i64 v4),(14,.i .i64 v5)],[],[(2,⟨true,true,39,4,enc Pl.cells v6⟩),(0,tab64)],3⟩→
 evLoop (evC (OV F D) 2 F a55L0) f s K=match Ptb_echelonL2 v0 v1 v4 v5 v6 f v2 v3 with|none=>none|some (y0)=>K (.ex 2) ⟨[(0,.sl (some (2,0)) v6.length .op),(5,.i .i64 v0),(6,.i .i64 v1),(7,.i .i64 y0),(13,.i .i64 v4),(14,.i .i64 v5)],[],[(2,⟨true,true,39,4,enc Pl.cells v6⟩),(0,tab64)],3⟩:=by
 obtain ⟨D,rfl⟩:=dex hD
 have ctb_column0:=etb_column (D) (by omega) F
 intro f
 induction f with
 |zero=>intro v2 v3 s hs;simp only [evLoop,Ptb_echelonL2]
 |succ f ih=>
 intro v2 v3 s hs
 obtain ⟨k0,hk,hn,he,hr⟩:=@lk_all (OV F (D+1)) 2 F a55L0 f K
 rw [loop_succ,hk,a55L0,runC_cutg,hs]
 clear hs
 simp only [Ptb_echelonL2]
 clear hk
 by_cases h1:v3<(((v6.length:Nat):Int))
 by_cases h2:v2<0
 rcases ixo (@pk_Pl_cells v6 v3) with h3|⟨x1,h3⟩
 rotate_left
 rcases h4:(Ptb_column x1.N x1.X x1.Z x1.Ph v1) with _|r2
 rotate_left
 by_cases h5:r2=1#64
 replace h5:=eq_true h5
 all_goals simp -implicitDefEqProofs only [*,-ih,vtb_column,EVA.down,ne_eq,seval]
 all_goals exact ih _ _ _ (by simp only [*,-ih,vtb_column,EVA.down,ne_eq,seval])
theorem ltb_echelonL3 (D:Nat)(hD:5≤D)(F:Nat)(v0 v1 v2 v3 v4:Int)(K:AE→AS→Option Res):∀ (f:Nat) (v5:Int) (v6:List Pl) (s:AS),s.keepG 2 [0,5,6,13,14,53,54] []=some ⟨[(0,.sl (some (2,0)) v6.length .op),(5,.i .i64 v0),(6,.i .i64 v1),(13,.i .i64 v2),(14,.i .i64 v3),(53,.i .i64 v4),(54,.i .i64 v5)],[],[(2,⟨true,true,39,4,enc Pl.cells v6⟩),(0,tab64)],3⟩→
 evLoop (evC (OV F D) 2 F a55L1) f s K=match Ptb_echelonL3 F v0 v1 v2 v3 v4 f v5 v6 with|none=>none|some (y0)=>K (.ex 4) ⟨[(0,.sl (some (2,0)) y0.length .op),(5,.i .i64 v0),(13,.i .i64 v2),(14,.i .i64 v3)],[],[(2,⟨true,true,39,4,enc Pl.cells y0⟩),(0,tab64)],3⟩:=by
 obtain ⟨D,rfl⟩:=dex hD
 have ctb_column0:=etb_column (D+4) (by omega) F
 have ctb_mul0:=etb_mul (D+4) (by omega) F
 intro f
 induction f with
 |zero=>intro v5 v6 s hs;simp only [evLoop,Ptb_echelonL3]
 |succ f ih=>
 intro v5 v6 s hs
 obtain ⟨k0,hk,hn,he,hr⟩:=@lk_all (OV F (D+5)) 2 F a55L1 f K
 rw [loop_succ,hk,a55L1,runC_cutg,hs]
 clear hs
 simp only [Ptb_echelonL3]
 clear hk
 by_cases h1:v5<v4
 by_cases h2:v5=v0
 replace h2:=eq_true h2
 rotate_left
 rcases ixo (@pk_Pl_cells v6 v5) with h3|⟨x1,h3⟩
 rotate_left
 rcases h4:(Ptb_column x1.N x1.X x1.Z x1.Ph v1) with _|r2
 rotate_left
 by_cases h5:r2=1#64
 replace h5:=eq_true h5
 rcases ixo (@pk_Pl_cells v6 v0) with h6|⟨x3,h6⟩
 rotate_left
 rcases h7:(Ptb_mul F x1.N x1.X x1.Z x1.Ph x3.N x3.X x3.Z x3.Ph) with _|⟨r4,r5,r6,r7⟩
 rotate_left
 have h8:v5.toNat*4+4≤v6.length*4:=by have:=(idx_some h3.1).2.1;omega
 have h9:splice (enc Pl.cells v6) (v5.toNat*4) [.i .i64 r4,.i .u64 (U r5),.i .u64 (U r6),.i .i64 r7]=enc Pl.cells ((v6).set v5.toNat (⟨r4,r5,r6,r7⟩:Pl)):=own_put len_Pl_cells h3.1 (⟨r4,r5,r6,r7⟩:Pl)
 all_goals simp -implicitDefEqProofs only [*,-ih,vtb_column,vtb_mul,EVA.down,ne_eq,seval]
 all_goals exact ih _ _ _ (by simp only [*,-ih,vtb_column,vtb_mul,EVA.down,ne_eq,seval])
theorem ltb_echelonL4 (D:Nat)(hD:5≤D)(F:Nat)(v1:Int)(K:AE→AS→Option Res):∀ (f:Nat) (v0 v2:Int) (v3:List Pl) (s:AS),s.keepG 2 [0,5,13,14] []=some ⟨[(0,.sl (some (2,0)) v3.length .op),(5,.i .i64 v0),(13,.i .i64 v1),(14,.i .i64 v2)],[],[(2,⟨true,true,39,4,enc Pl.cells v3⟩),(0,tab64)],3⟩→
 evLoop (evC (OV F D) 2 F a55L2) f s K=match Ptb_echelonL4 F v1 f v0 v2 v3 with|none=>none|some (y0)=>K (.ex 0) ⟨[(0,.sl (some (2,0)) y0.length .op)],[],[(2,⟨true,true,39,4,enc Pl.cells y0⟩),(0,tab64)],3⟩:=by
 obtain ⟨D,rfl⟩:=dex hD
 intro f
 induction f with
 |zero=>intro v0 v2 v3 s hs;simp only [evLoop,Ptb_echelonL4]
 |succ f ih=>
 intro v0 v2 v3 s hs
 obtain ⟨k0,hk,hn,he,hr⟩:=@lk_all (OV F (D+5)) 2 F a55L2 f K
 rw [loop_succ,hk,a55L2,runC_cutg,hs]
 clear hs
 simp only [Ptb_echelonL4]
 clear hk
 by_cases h1:v2<v1
 simp -implicitDefEqProofs only [*,-ih,runC_loop,EVA.down,ne_eq,seval]
 rw [ltb_echelonL2 (D+5) (by omega) F v0 v2 v1 v2 v3 _ F ((-1):Int) v0 _ (by simp only [*,-ih,EVA.down,ne_eq,seval];try rfl)]
 rcases h2:(Ptb_echelonL2 v0 v2 v1 v2 v3 F ((-1):Int) v0) with _|y1
 rotate_left
 by_cases h3:y1<0
 rotate_left
 rcases ixo (@pk_Pl_cells v3 y1) with h4|⟨x2,h4⟩
 rotate_left
 rcases ixo (@pk_Pl_cells v3 v0) with h5|⟨x3,h5⟩
 rotate_left
 have h6:v0.toNat*4+4≤v3.length*4:=by have:=(idx_some h5.1).2.1;omega
 have h7:splice (enc Pl.cells v3) (v0.toNat*4) [.i .i64 x2.N,.i .u64 (U x2.X),.i .u64 (U x2.Z),.i .i64 x2.Ph]=enc Pl.cells ((v3).set v0.toNat x2):=own_put len_Pl_cells h5.1 x2
 rcases h8:(idx ((v3).set v0.toNat x2) y1) with _|x4
 have h8o:inb y1 v3.length=false:=by have q:=idx_out h8;simpa only [List.length_set] using q
 first|exact absurd (show inb y1 v3.length=true by simp only [*,-ih,-h8o]) (by rw [h8o];exact Bool.false_ne_true)|rotate_left
 have h8i:inb y1 v3.length=true:=by have q:=idx_inb h8;simpa only [List.length_set] using q
 replace h8:=pk_Pl_cells h8
 have h9:y1.toNat*4+4≤v3.length*4:=by have:=(idx_some h8.1).2.1;(try simp only [List.length_set] at this);omega
 have h10:splice (enc Pl.cells ((v3).set v0.toNat x2)) (y1.toNat*4) [.i .i64 x3.N,.i .u64 (U x3.X),.i .u64 (U x3.Z),.i .i64 x3.Ph]=enc Pl.cells (((v3).set v0.toNat x2).set y1.toNat x3):=own_put len_Pl_cells h8.1 x3
 simp -implicitDefEqProofs only [*,-ih,runC_loop,EVA.down,ne_eq,seval]
 rw [ltb_echelonL3 (D+5) (by omega) F v0 v2 v1 v2 ((v3.length:Nat):Int) _ F 0 (((v3).set v0.toNat x2).set y1.toNat x3) _ (by simp only [*,-ih,EVA.down,ne_eq,seval];try rfl)]
 rcases h11:(Ptb_echelonL3 F v0 v2 v1 v2 ((v3.length:Nat):Int) F 0 (((v3).set v0.toNat x2).set y1.toNat x3)) with _|y5
 rotate_left
 have h11l0:y5.length=v3.length:=by have q:=ltb_echelonL3n0_0 F v0 v2 v1 v2 ((v3.length:Nat):Int) F 0 (((v3).set v0.toNat x2).set y1.toNat x3) y5 h11;simpa only [List.length_set] using q
 have h11t0:=len_facts h11l0
 all_goals simp -implicitDefEqProofs only [*,-ih,EVA.down,ne_eq,seval]
 all_goals exact ih _ _ _ _ (by simp only [*,-ih,EVA.down,ne_eq,seval])
theorem etb_echelon (D:Nat)(hD:5≤D)(F:Nat)(a0:List Pl)(a1:Int)(q:Bool):evW 2 (OV F D) F a55 (some [.vs a0.length .unk (enc Pl.cells a0),.i .i64 a1]) q G0 =
 match Ptb_echelon F a0 a1 with|none=>none|some r0=>some (.vs r0.length .unk (enc Pl.cells r0),none):=by
 obtain ⟨D,rfl⟩:=dex hD
 rw [evW_some,G0]
 simp only [Ptb_echelon]
 by_cases h1:a0.length*32≤140737488355328
 by_cases h2:a0=[]
 replace h2:=eq_true h2
 simp -implicitDefEqProofs only [*,a55,k54,runC_loop,EVA.down,ne_eq,seval]
 rw [ltb_echelonL1 (D+5) (by omega) F ([]) 0 (IntKind.i64.wrap (2*a1)) _ F 0 _ (by simp only [*,a55,k54,EVA.down,ne_eq,seval];try rfl)]
 rcases h3:(Ptb_echelonL1 F ([]) 0 (IntKind.i64.wrap (2*a1)) F 0) with _|_
 rotate_left
 rotate_left
 simp -implicitDefEqProofs only [*,a55,k54,runC_loop,EVA.down,ne_eq,seval]
 rw [ltb_echelonL4 (D+5) (by omega) F (IntKind.i64.wrap (2*a1)) _ F 0 0 a0 _ (by simp only [*,a55,k54,EVA.down,ne_eq,seval];try rfl)]
 rcases h4:(Ptb_echelonL4 F (IntKind.i64.wrap (2*a1)) F 0 0 a0) with _|y1
 rotate_left
 have h4l0:y1.length=a0.length:=by have q:=ltb_echelonL4n0_0 F (IntKind.i64.wrap (2*a1)) F 0 0 a0 y1 h4;simpa only [List.length_set] using q
 have h4t0:=len_facts h4l0
 all_goals simp -implicitDefEqProofs only [*,a55,k54,EVA.down,ne_eq,seval]
theorem vtb_echelon {D F n:Nat}{args:List AV}{h:AHeap}:OV F (D+1) 55 args h n (n+1)=evW 2 (OV F D) F a55 (frzs (frz true 0 (bif AV.nors args then [] else h) 8) args) (AV.nors args) (hglb h 2):=evV_frozen rfl
theorem etb_echelono (D:Nat)(hD:5≤D)(F:Nat)(a0:List Pl)(a1:Int)(n:Nat):evX 2 (OV F D) F a55 (some [.vs a0.length .unk (enc Pl.cells a0),.i .i64 a1]) true G0 n =
 match Ptb_echelon F a0 a1 with|none=>none|some r0=>(match ownS Pl.cells 39 4 (.vs 0 .unk []) r0 n with|(w0,g0,n0)=>some (w0,some (g0,n0))):=by
 obtain ⟨D,rfl⟩:=dex hD
 rw [evX_some,G0]
 simp only [Ptb_echelon]
 by_cases h1:a0.length*32≤140737488355328
 by_cases h2:a0=[]
 replace h2:=eq_true h2
 simp -implicitDefEqProofs only [*,a55,k54,runC_loop,EVA.down,ne_eq,seval]
 rw [ltb_echelonL1 (D+5) (by omega) F ([]) 0 (IntKind.i64.wrap (2*a1)) _ F 0 _ (by simp only [*,a55,k54,EVA.down,ne_eq,seval];try rfl)]
 rcases h3:(Ptb_echelonL1 F ([]) 0 (IntKind.i64.wrap (2*a1)) F 0) with _|_
 rotate_left
 rotate_left
 simp -implicitDefEqProofs only [*,a55,k54,runC_loop,EVA.down,ne_eq,seval]
 rw [ltb_echelonL4 (D+5) (by omega) F (IntKind.i64.wrap (2*a1)) _ F 0 0 a0 _ (by simp only [*,a55,k54,EVA.down,ne_eq,seval];try rfl)]
 rcases h4:(Ptb_echelonL4 F (IntKind.i64.wrap (2*a1)) F 0 0 a0) with _|y1
 rotate_left
 have h4l0:y1.length=a0.length:=by have q:=ltb_echelonL4n0_0 F (IntKind.i64.wrap (2*a1)) F 0 0 a0 y1 h4;simpa only [List.length_set] using q
 have h4t0:=len_facts h4l0
 all_goals simp -implicitDefEqProofs only [*,a55,k54,EVA.down,ne_eq,seval]
theorem vtb_echelono {D F n:Nat}{args:List AV}{h:AHeap}:OV F (D+1) 55 args h n n=evX 2 (OV F D) F a55 (frzs (frz true 0 (bif AV.nors args then [] else h) 8) args) (AV.nors args) (hglb h 2) n:=evV_own rfl
theorem etb_Canon (D:Nat)(hD:6≤D)(F:Nat)(a0_N:Int)(a0_Stab a0_Destab:List Pl)(q:Bool):evW 2 (OV F D) F a42 (some [.agg [.i .i64 a0_N,.vs a0_Stab.length .unk (enc Pl.cells a0_Stab),.vs a0_Destab.length .unk (enc Pl.cells a0_Destab)]]) q G0 =
 match Ptb_Canon F a0_N a0_Stab a0_Destab with|none=>none|some (r0,r1)=>some (.tup [.vs r0.length .unk (enc Pl.cells r0),.i .i64 r1],none):=by
 obtain ⟨D,rfl⟩:=dex hD
 have ctb_Check0:=etb_Check (D+5) (by omega) F
 have ctb_echelono0:=etb_echelono (D+5) (by omega) F
 rw [evW_some,G0]
 simp only [Ptb_Canon]
 rcases h1:(Ptb_Check F a0_N a0_Stab a0_Destab) with _|r1
 rotate_left
 by_cases h2:r1=0
 replace h2:=eq_true h2
 rcases h3:(Ptb_echelon F a0_Stab a0_N) with _|r2
 rotate_left
 by_cases h4:r2=[]
 replace h4:=eq_true h4
 all_goals simp -implicitDefEqProofs only [*,a42,vtb_Check,vtb_echelono,EVA.down,ne_eq,seval]
theorem vtb_Canon {D F n:Nat}{args:List AV}{h:AHeap}:OV F (D+1) 42 args h n (n+1)=evW 2 (OV F D) F a42 (frzs (frz true 0 (bif AV.nors args then [] else h) 8) args) (AV.nors args) (hglb h 2):=evV_frozen rfl
theorem etb_Canono (D:Nat)(hD:6≤D)(F:Nat)(a0_N:Int)(a0_Stab a0_Destab:List Pl)(n:Nat):evX 2 (OV F D) F a42 (some [.agg [.i .i64 a0_N,.vs a0_Stab.length .unk (enc Pl.cells a0_Stab),.vs a0_Destab.length .unk (enc Pl.cells a0_Destab)]]) true G0 n =
 match Ptb_Canon F a0_N a0_Stab a0_Destab with|none=>none|some (r0,r1)=>(match ownS Pl.cells 39 4 (.vs 0 .unk []) r0 n with|(w0,g0,n0)=>some (.tup [w0,.i .i64 r1],some (g0,n0))):=by
 obtain ⟨D,rfl⟩:=dex hD
 have ctb_Check0:=etb_Check (D+5) (by omega) F
 have ctb_echelono0:=etb_echelono (D+5) (by omega) F
 rw [evX_some,G0]
 simp only [Ptb_Canon]
 rcases h1:(Ptb_Check F a0_N a0_Stab a0_Destab) with _|r1
 rotate_left
 by_cases h2:r1=0
 replace h2:=eq_true h2
 rcases h3:(Ptb_echelon F a0_Stab a0_N) with _|r2
 rotate_left
 by_cases h4:r2=[]
 replace h4:=eq_true h4
 all_goals simp -implicitDefEqProofs only [*,a42,vtb_Check,vtb_echelono,EVA.down,ne_eq,seval]
theorem vtb_Canono {D F n:Nat}{args:List AV}{h:AHeap}:OV F (D+1) 42 args h n n=evX 2 (OV F D) F a42 (frzs (frz true 0 (bif AV.nors args then [] else h) 8) args) (AV.nors args) (hglb h 2) n:=evV_own rfl
theorem lslices_Equal_PauliL0 (D:Nat)(hD:0≤D)(F:Nat)(v0 v1:List Pl)(v2:Int)(K:AE→AS→Option Res):∀ (f:Nat) (v3:Int) (s:AS),s.keep [0,1,12,13] []=some ⟨[(0,.vs v0.length .unk (enc Pl.cells v0)),(1,.vs v1.length .unk (enc Pl.cells v1)),(12,.i .i64 v2),(13,.i .i64 v3)],[],[(0,tab64)],2⟩→
 evLoop (evC (OV F D) 2 F a46L0) f s K=match Pslices_Equal_PauliL0 v0 v1 v2 f v3 with|none=>none|some (.inl _)=>K .ret ⟨[(4,.b false)],[],[(0,tab64)],2⟩|some (.inr _)=>K (.ex 0) ⟨[],[],[(0,tab64)],2⟩:=by
 intro f
 induction f with
 |zero=>intro v3 s hs;simp only [evLoop,Pslices_Equal_PauliL0]
 |succ f ih=>
 intro v3 s hs
 obtain ⟨k0,hk,hn,he,hr⟩:=@lk_all (OV F (D)) 2 F a46L0 f K
 rw [loop_succ,hk,a46L0,runC_cut,hs]
 clear hs
 simp only [Pslices_Equal_PauliL0]
 clear hk
 by_cases h1:v3<v2
 rcases ixo (@pk_Pl_cells v0 v3) with h2|⟨x1,h2⟩
 rotate_left
 rcases ixo (@pk_Pl_cells v1 v3) with h3|⟨x2,h3⟩
 rotate_left
 rcases h4:((decide (x1.N=x2.N)&&(decide (x1.X=x2.X)&&(decide (x1.Z=x2.Z)&&decide (x1.Ph=x2.Ph))))) with _|_
 all_goals simp -implicitDefEqProofs only [*,-ih,EVA.down,ne_eq,seval]
 all_goals exact ih _ _ (by simp only [*,-ih,EVA.down,ne_eq,seval])
theorem eslices_Equal_Pauli (D:Nat)(hD:0≤D)(F:Nat)(a0 a1:List Pl)(q:Bool):evW 2 (OV F D) F a46 (some [.vs a0.length .unk (enc Pl.cells a0),.vs a1.length .unk (enc Pl.cells a1)]) q G0 =
 match Pslices_Equal_Pauli F a0 a1 with|none=>none|some r0=>some (.b r0,none):=by
 rw [evW_some,G0]
 simp only [Pslices_Equal_Pauli]
 by_cases h1:(a0.length:Int)=(a1.length:Int)
 replace h1:=eq_true h1
 simp -implicitDefEqProofs only [*,a46,runC_loop,EVA.down,ne_eq,seval]
 rw [lslices_Equal_PauliL0 (D) (by omega) F a0 a1 (a0.length:Int) _ F 0 _ (by simp only [*,a46,EVA.down,ne_eq,seval];try rfl)]
 rcases h2:(Pslices_Equal_PauliL0 a0 a1 (a0.length:Int) F 0) with _|(_|_)
 all_goals simp -implicitDefEqProofs only [*,a46,EVA.down,ne_eq,seval]
theorem vslices_Equal_Pauli {D F n:Nat}{args:List AV}{h:AHeap}:OV F (D+1) 46 args h n (n+1)=evW 2 (OV F D) F a46 (frzs (frz true 0 (bif AV.nors args then [] else h) 8) args) (AV.nors args) (hglb h 2):=evV_frozen rfl
theorem etb_Same (D:Nat)(hD:7≤D)(F:Nat)(a0_N:Int)(a0_Stab a0_Destab:List Pl)(a1_N:Int)(a1_Stab a1_Destab:List Pl)(q:Bool):evW 2 (OV F D) F a19 (some [.agg [.i .i64 a0_N,.vs a0_Stab.length .unk (enc Pl.cells a0_Stab),.vs a0_Destab.length .unk (enc Pl.cells a0_Destab)],.agg [.i .i64 a1_N,.vs a1_Stab.length .unk (enc Pl.cells a1_Stab),.vs a1_Destab.length .unk (enc Pl.cells a1_Destab)]]) q G0 =
 match Ptb_Same F a0_N a0_Stab a0_Destab a1_N a1_Stab a1_Destab with|none=>none|some r0=>some (.b r0,none):=by
 obtain ⟨D,rfl⟩:=dex hD
 have ctb_Canon0:=etb_Canon (D+6) (by omega) F
 have cslices_Equal_Pauli0:=eslices_Equal_Pauli (D+6) (by omega) F
 rw [evW_some,G0]
 simp only [Ptb_Same]
 rcases h1:(Ptb_Canon F a0_N a0_Stab a0_Destab) with _|⟨r1,r2⟩
 rotate_left
 rcases h2:(Ptb_Canon F a1_N a1_Stab a1_Destab) with _|⟨r3,r4⟩
 rotate_left
 by_cases h3:r2=0
 replace h3:=eq_true h3
 by_cases h4:r4=0
 replace h4:=eq_true h4
 by_cases h5:a0_N=a1_N
 replace h5:=eq_true h5
 rcases h6:(Pslices_Equal_Pauli F r1 r3) with _|r5
 all_goals simp -implicitDefEqProofs only [*,a19,vtb_Canon,vslices_Equal_Pauli,EVA.down,ne_eq,seval]
theorem vtb_Same {D F n:Nat}{args:List AV}{h:AHeap}:OV F (D+1) 19 args h n (n+1)=evW 2 (OV F D) F a19 (frzs (frz true 0 (bif AV.nors args then [] else h) 8) args) (AV.nors args) (hglb h 2):=evV_frozen rfl
theorem lref14_reducedL0 (D:Nat)(hD:0≤D)(F:Nat)(v0 v1 v2 v3:Int)(K:AE→AS→Option Res):∀ (f:Nat) (s:AS),s.keepG 2 [1,5,6,7,8] []=some ⟨[(1,.i .i64 v0),(5,.sl none 0 (.ex 0)),(6,.i .i64 v1),(7,.i .i64 v2),(8,.i .i64 v3)],[],[(0,tab64)],2⟩→
 evLoop (evC (OV F D) 2 F a96L0) f s K=match Pref14_reducedL0 v0 v1 v2 v3 f with|none=>none|some (_)=>K (.ex 2) ⟨[(1,.i .i64 v0),(5,.sl none 0 (.ex 0)),(6,.i .i64 v1),(7,.i .i64 v2),(8,.i .i64 v3)],[],[(0,tab64)],2⟩:=by
 intro f
 induction f with
 |zero=>intro s hs;simp only [evLoop,Pref14_reducedL0]
 |succ f ih=>
 intro s hs
 obtain ⟨k0,hk,hn,he,hr⟩:=@lk_all (OV F (D)) 2 F a96L0 f K
 rw [loop_succ,hk,a96L0,runC_cutg,hs]
 clear hs
 simp only [Pref14_reducedL0]
 clear hk
 by_cases h1:v3<0
 all_goals simp -implicitDefEqProofs only [*,-ih,EVA.down,ne_eq,seval]
theorem lref14_reducedL1 (D:Nat)(hD:0≤D)(F:Nat)(v0 v1:Int)(K:AE→AS→Option Res):∀ (f:Nat) (v2:Int) (s:AS),s.keepG 2 [1,5,6,7] []=some ⟨[(1,.i .i64 v0),(5,.sl none 0 (.ex 0)),(6,.i .i64 v1),(7,.i .i64 v2)],[],[(0,tab64)],2⟩→
 evLoop (evC (OV F D) 2 F a96L2) f s K=match Pref14_reducedL1 F v0 v1 f v2 with|none=>none|some (_)=>K (.ex 0) ⟨[(5,.sl none 0 (.ex 0)),(6,.i .i64 v1)],[],[(0,tab64)],2⟩:=by
 intro f
 induction f with
 |zero=>intro v2 s hs;simp only [evLoop,Pref14_reducedL1]
 |succ f ih=>
 intro v2 s hs
 obtain ⟨k0,hk,hn,he,hr⟩:=@lk_all (OV F (D)) 2 F a96L2 f K
 rw [loop_succ,hk,a96L2,runC_cutg,hs]
 clear hs
 simp only [Pref14_reducedL1]
 clear hk
 by_cases h1:v2<(IntKind.i64.wrap (2*v0))
 by_cases h2:v1<0
 simp -implicitDefEqProofs only [*,-ih,runC_loop,EVA.down,ne_eq,seval]
 rw [lref14_reducedL0 (D) (by omega) F v0 v1 v2 v1 _ F  _ (by simp only [*,-ih,EVA.down,ne_eq,seval];try rfl)]
 rcases h3:(Pref14_reducedL0 v0 v1 v2 v1 F) with _|_
 rotate_left
 by_cases h4:v1=0
 replace h4:=eq_true h4
 all_goals simp -implicitDefEqProofs only [*,-ih,EVA.down,ne_eq,seval]
 all_goals exact ih _ _ (by simp only [*,-ih,EVA.down,ne_eq,seval])
theorem eref14_bit (D:Nat)(hD:0≤D)(F:Nat)(a0_N:Int)(a0_X a0_Z:BitVec 64)(a0_Phase a1:Int)(q:Bool):evW 2 (OV F D) F a106 (some [.agg [.i .i64 a0_N,.i .u64 (U a0_X),.i .u64 (U a0_Z),.i .i64 a0_Phase],.i .i64 a1]) q G0 =
 some (.b ((Pref14_bit a0_N a0_X a0_Z a0_Phase a1)),none):=by
 rw [evW_some,G0]
 simp only [Pref14_bit]
 by_cases h1:a1<a0_N
 all_goals simp -implicitDefEqProofs only [*,a106,EVA.down,ne_eq,seval]
theorem vref14_bit {D F n:Nat}{args:List AV}{h:AHeap}:OV F (D+1) 106 args h n (n+1)=evW 2 (OV F D) F a106 (frzs (frz true 0 (bif AV.nors args then [] else h) 8) args) (AV.nors args) (hglb h 2):=evV_frozen rfl
theorem lref14_reducedL2 (D:Nat)(hD:1≤D)(F:Nat)(v0 v1 v2:Int)(v4:List Pl)(K:AE→AS→Option Res):∀ (f:Nat) (v3:Int) (s:AS),s.keepG 2 [1,5,6,7,8] []=some ⟨[(1,.i .i64 v0),(5,.sl (some (2,0)) v4.length .op),(6,.i .i64 v1),(7,.i .i64 v2),(8,.i .i64 v3)],[],[(2,⟨true,true,39,4,enc Pl.cells v4⟩),(0,tab64)],3⟩→
 evLoop (evC (OV F D) 2 F a96L0) f s K=match Pref14_reducedL2 v0 v1 v2 v4 f v3 with|none=>none|some (y0)=>K (.ex 2) ⟨[(1,.i .i64 v0),(5,.sl (some (2,0)) v4.length .op),(6,.i .i64 v1),(7,.i .i64 v2),(8,.i .i64 y0)],[],[(2,⟨true,true,39,4,enc Pl.cells v4⟩),(0,tab64)],3⟩:=by
 obtain ⟨D,rfl⟩:=dex hD
 have cref14_bit0:=eref14_bit (D) (by omega) F
 intro f
 induction f with
 |zero=>intro v3 s hs;simp only [evLoop,Pref14_reducedL2]
 |succ f ih=>
 intro v3 s hs
 obtain ⟨k0,hk,hn,he,hr⟩:=@lk_all (OV F (D+1)) 2 F a96L0 f K
 rw [loop_succ,hk,a96L0,runC_cutg,hs]
 clear hs
 simp only [Pref14_reducedL2]
 clear hk
 by_cases h1:v3<(((v4.length:Nat):Int))
 rcases ixo (@pk_Pl_cells v4 v3) with h2|⟨x1,h2⟩
 rotate_left
 rcases h3:((Pref14_bit x1.N x1.X x1.Z x1.Ph v2)) with _|_
 all_goals simp -implicitDefEqProofs only [*,-ih,vref14_bit,EVA.down,ne_eq,seval]
 all_goals exact ih _ _ (by simp only [*,-ih,vref14_bit,EVA.down,ne_eq,seval])
theorem lref14_reducedL3 (D:Nat)(hD:5≤D)(F:Nat)(v0 v1 v2:Int)(K:AE→AS→Option Res):∀ (f:Nat) (v3:Int) (v4:List Pl) (s:AS),s.keepG 2 [1,5,6,7,10] []=some ⟨[(1,.i .i64 v0),(5,.sl (some (2,0)) v4.length .op),(6,.i .i64 v1),(7,.i .i64 v2),(10,.i .i64 v3)],[],[(2,⟨true,true,39,4,enc Pl.cells v4⟩),(0,tab64)],3⟩→
 evLoop (evC (OV F D) 2 F a96L1) f s K=match Pref14_reducedL3 F v0 v1 v2 f v3 v4 with|none=>none|some (y0)=>K (.ex 4) ⟨[(1,.i .i64 v0),(5,.sl (some (2,0)) y0.length .op),(6,.i .i64 v1),(7,.i .i64 v2)],[],[(2,⟨true,true,39,4,enc Pl.cells y0⟩),(0,tab64)],3⟩:=by
 obtain ⟨D,rfl⟩:=dex hD
 have cref14_times0:=eref14_times (D+4) (by omega) F
 have cref14_bit0:=eref14_bit (D+4) (by omega) F
 intro f
 induction f with
 |zero=>intro v3 v4 s hs;simp only [evLoop,Pref14_reducedL3]
 |succ f ih=>
 intro v3 v4 s hs
 obtain ⟨k0,hk,hn,he,hr⟩:=@lk_all (OV F (D+5)) 2 F a96L1 f K
 rw [loop_succ,hk,a96L1,runC_cutg,hs]
 clear hs
 simp only [Pref14_reducedL3]
 clear hk
 by_cases h1:v3<(((v4.length:Nat):Int))
 by_cases h2:v3=v1
 replace h2:=eq_true h2
 rotate_left
 rcases ixo (@pk_Pl_cells v4 v3) with h3|⟨x1,h3⟩
 rotate_left
 rcases h4:((Pref14_bit x1.N x1.X x1.Z x1.Ph v2)) with _|_
 rotate_left
 rcases ixo (@pk_Pl_cells v4 v1) with h5|⟨x2,h5⟩
 rotate_left
 rcases h6:(Pref14_times F x1.N x1.X x1.Z x1.Ph x2.N x2.X x2.Z x2.Ph) with _|⟨r3,r4,r5,r6⟩
 rotate_left
 have h7:v3.toNat*4+4≤v4.length*4:=by have:=(idx_some h3.1).2.1;omega
 have h8:splice (enc Pl.cells v4) (v3.toNat*4) [.i .i64 r3,.i .u64 (U r4),.i .u64 (U r5),.i .i64 r6]=enc Pl.cells ((v4).set v3.toNat (⟨r3,r4,r5,r6⟩:Pl)):=own_put len_Pl_cells h3.1 (⟨r3,r4,r5,r6⟩:Pl)
 all_goals simp -implicitDefEqProofs only [*,-ih,vref14_times,vref14_bit,EVA.down,ne_eq,seval]
 all_goals exact ih _ _ _ (by simp only [*,-ih,vref14_times,vref14_bit,EVA.down,ne_eq,seval])
theorem lref14_reducedL4 (D:Nat)(hD:5≤D)(F:Nat)(v0:Int)(K:AE→AS→Option Res):∀ (f:Nat) (v1 v2:Int) (v3:List Pl) (s:AS),s.keepG 2 [1,5,6,7] []=some ⟨[(1,.i .i64 v0),(5,.sl (some (2,0)) v3.length .op),(6,.i .i64 v1),(7,.i .i64 v2)],[],[(2,⟨true,true,39,4,enc Pl.cells v3⟩),(0,tab64)],3⟩→
 evLoop (evC (OV F D) 2 F a96L2) f s K=match Pref14_reducedL4 F v0 f v1 v2 v3 with|none=>none|some (y0,y1)=>K (.ex 0) ⟨[(5,.sl (some (2,0)) y1.length .op),(6,.i .i64 y0)],[],[(2,⟨true,true,39,4,enc Pl.cells y1⟩),(0,tab64)],3⟩:=by
 obtain ⟨D,rfl⟩:=dex hD
 intro f
 induction f with
 |zero=>intro v1 v2 v3 s hs;simp only [evLoop,Pref14_reducedL4]
 |succ f ih=>
 intro v1 v2 v3 s hs
 obtain ⟨k0,hk,hn,he,hr⟩:=@lk_all (OV F (D+5)) 2 F a96L2 f K
 rw [loop_succ,hk,a96L2,runC_cutg,hs]
 clear hs
 simp only [Pref14_reducedL4]
 clear hk
 by_cases h1:v2<(IntKind.i64.wrap (2*v0))
 by_cases h2:v1<(((v3.length:Nat):Int))
 simp -implicitDefEqProofs only [*,-ih,runC_loop,EVA.down,ne_eq,seval]
 rw [lref14_reducedL2 (D+5) (by omega) F v0 v1 v2 v3 _ F v1 _ (by simp only [*,-ih,EVA.down,ne_eq,seval];try rfl)]
 rcases h3:(Pref14_reducedL2 v0 v1 v2 v3 F v1) with _|y1
 rotate_left
 by_cases h4:y1=(((v3.length:Nat):Int))
 replace h4:=eq_true h4
 rotate_left
 rcases ixo (@pk_Pl_cells v3 y1) with h5|⟨x2,h5⟩
 rotate_left
 rcases ixo (@pk_Pl_cells v3 v1) with h6|⟨x3,h6⟩
 rotate_left
 have h7:y1.toNat*4+4≤v3.length*4:=by have:=(idx_some h5.1).2.1;omega
 have h8:splice (enc Pl.cells v3) (y1.toNat*4) [.i .i64 x3.N,.i .u64 (U x3.X),.i .u64 (U x3.Z),.i .i64 x3.Ph]=enc Pl.cells ((v3).set y1.toNat x3):=own_put len_Pl_cells h5.1 x3
 rcases h9:(idx ((v3).set y1.toNat x3) v1) with _|x4
 have h9o:inb v1 v3.length=false:=by have q:=idx_out h9;simpa only [List.length_set] using q
 first|exact absurd (show inb v1 v3.length=true by simp only [*,-ih,-h9o]) (by rw [h9o];exact Bool.false_ne_true)|rotate_left
 have h9i:inb v1 v3.length=true:=by have q:=idx_inb h9;simpa only [List.length_set] using q
 replace h9:=pk_Pl_cells h9
 have h10:v1.toNat*4+4≤v3.length*4:=by have:=(idx_some h9.1).2.1;(try simp only [List.length_set] at this);omega
 have h11:splice (enc Pl.cells ((v3).set y1.toNat x3)) (v1.toNat*4) [.i .i64 x2.N,.i .u64 (U x2.X),.i .u64 (U x2.Z),.i .i64 x2.Ph]=enc Pl.cells (((v3).set y1.toNat x3).set v1.toNat x2):=own_put len_Pl_cells h9.1 x2
 simp -implicitDefEqProofs only [*,-ih,runC_loop,EVA.down,ne_eq,seval]
 rw [lref14_reducedL3 (D+5) (by omega) F v0 v1 v2 _ F 0 (((v3).set y1.toNat x3).set v1.toNat x2) _ (by simp only [*,-ih,EVA.down,ne_eq,seval];try rfl)]
 rcases h12:(Pref14_reducedL3 F v0 v1 v2 F 0 (((v3).set y1.toNat x3).set v1.toNat x2)) with _|y5
 rotate_left
 have h12l0:y5.length=v3.length:=by have q:=lref14_reducedL3n0_0 F v0 v1 v2 F 0 (((v3).set y1.toNat x3).set v1.toNat x2) y5 h12;simpa only [List.length_set] using q
 have h12t0:=len_facts h12l0
 all_goals simp -implicitDefEqProofs only [*,-ih,EVA.down,ne_eq,seval]
 all_goals exact ih _ _ _ _ (by simp only [*,-ih,EVA.down,ne_eq,seval])
theorem eref14_reduced (D:Nat)(hD:5≤D)(F:Nat)(a0:List Pl)(a1:Int)(q:Bool):evW 2 (OV F D) F a96 (some [.vs a0.length .unk (enc Pl.cells a0),.i .i64 a1]) q G0 =
 match Pref14_reduced F a0 a1 with|none=>none|some r0=>some (.vs r0.length .unk (enc Pl.cells r0),none):=by
 obtain ⟨D,rfl⟩:=dex hD
 rw [evW_some,G0]
 simp only [Pref14_reduced]
 by_cases h1:a0=[]
 replace h1:=eq_true h1
 simp -implicitDefEqProofs only [*,a96,runC_loop,EVA.down,ne_eq,seval]
 rw [lref14_reducedL1 (D+5) (by omega) F a1 0 _ F 0 _ (by simp only [*,a96,EVA.down,ne_eq,seval];try rfl)]
 rcases h2:(Pref14_reducedL1 F a1 0 F 0) with _|_
 rotate_left
 rotate_left
 by_cases h3:a0.length*32≤140737488355328
 simp -implicitDefEqProofs only [*,a96,runC_loop,EVA.down,ne_eq,seval]
 rw [lref14_reducedL4 (D+5) (by omega) F a1 _ F 0 0 a0 _ (by simp only [*,a96,EVA.down,ne_eq,seval];try rfl)]
 rcases h4:(Pref14_reducedL4 F a1 F 0 0 a0) with _|⟨y1,y2⟩
 rotate_left
 have h4l1:y2.length=a0.length:=by have q:=lref14_reducedL4n0_1 F a1 F 0 0 a0 y1 y2 h4;simpa only [List.length_set] using q
 have h4t1:=len_facts h4l1
 by_cases h5:0≤y1∧y1≤(a0.length:Int)
 have h6:∀ cap x,AV.vs y1.toNat cap x=AV.vs (y2.take y1.toNat).length cap x:=by intro cap x;congr 1;simp only [List.length_take];omega
 all_goals simp -implicitDefEqProofs only [*,a96,EVA.down,ne_eq,seval]
theorem vref14_reduced {D F n:Nat}{args:List AV}{h:AHeap}:OV F (D+1) 96 args h n (n+1)=evW 2 (OV F D) F a96 (frzs (frz true 0 (bif AV.nors args then [] else h) 8) args) (AV.nors args) (hglb h 2):=evV_frozen rfl
theorem eref14_Canon (D:Nat)(hD:6≤D)(F:Nat)(a0_N:Int)(a0_Stab a0_Destab:List Pl):evW 2 (OV F D) F a73 (some [.agg [.i .i64 a0_N,.vs a0_Stab.length .unk (enc Pl.cells a0_Stab),.vs a0_Destab.length .unk (enc Pl.cells a0_Destab)]]) true G0 =
 match Pref14_Canon F a0_N a0_Stab a0_Destab with|none=>none|some (r0,r1)=>some (.tup [.vs r0.length .unk (enc Pl.cells r0),.i .i64 r1],none):=by
 obtain ⟨D,rfl⟩:=dex hD
 have cref14_Right0:=eref14_Right (D+5) (by omega) F
 have cref14_reduced0:=eref14_reduced (D+5) (by omega) F
 rw [evW_some,G0]
 simp only [Pref14_Canon]
 rcases h1:(Pref14_Right F a0_N a0_Stab a0_Destab) with _|r1
 rotate_left
 rcases h2:(r1) with _|_
 rotate_left
 rcases h3:(Pref14_reduced F a0_Stab a0_N) with _|r2
 all_goals simp -implicitDefEqProofs only [*,a73,vref14_Right,vref14_reduced,EVA.down,ne_eq,seval]
theorem vref14_Canon {D F n:Nat}{args:List AV}{h:AHeap}:OV F (D+1) 73 args h n (n+1)=evW 2 (OV F D) F a73 (frzs (frz true 0 (bif AV.nors args then [] else h) 8) args) (AV.nors args) (hglb h 2):=evV_frozen rfl
theorem eref14_Same (D:Nat)(hD:7≤D)(F:Nat)(a0_N:Int)(a0_Stab a0_Destab:List Pl)(a1_N:Int)(a1_Stab a1_Destab:List Pl)(q:Bool):evW 2 (OV F D) F a35 (some [.agg [.i .i64 a0_N,.vs a0_Stab.length .unk (enc Pl.cells a0_Stab),.vs a0_Destab.length .unk (enc Pl.cells a0_Destab)],.agg [.i .i64 a1_N,.vs a1_Stab.length .unk (enc Pl.cells a1_Stab),.vs a1_Destab.length .unk (enc Pl.cells a1_Destab)]]) q G0 =
 match Pref14_Same F a0_N a0_Stab a0_Destab a1_N a1_Stab a1_Destab with|none=>none|some r0=>some (.b r0,none):=by
 obtain ⟨D,rfl⟩:=dex hD
 have cref14_SameRows0:=eref14_SameRows (D+6) (by omega) F
 have cref14_Canon0:=eref14_Canon (D+6) (by omega) F
 rw [evW_some,G0]
 simp only [Pref14_Same]
 rcases h1:(Pref14_Canon F a0_N a0_Stab a0_Destab) with _|⟨r1,r2⟩
 rotate_left
 rcases h2:(Pref14_Canon F a1_N a1_Stab a1_Destab) with _|⟨r3,r4⟩
 rotate_left
 by_cases h3:r2=0
 replace h3:=eq_true h3
 by_cases h4:r4=0
 replace h4:=eq_true h4
 by_cases h5:a0_N=a1_N
 replace h5:=eq_true h5
 rcases h6:(Pref14_SameRows F r1 r3) with _|r5
 all_goals simp -implicitDefEqProofs only [*,a35,vref14_SameRows,vref14_Canon,EVA.down,ne_eq,seval]
theorem vref14_Same {D F n:Nat}{args:List AV}{h:AHeap}:OV F (D+1) 35 args h n (n+1)=evW 2 (OV F D) F a35 (frzs (frz true 0 (bif AV.nors args then [] else h) 8) args) (AV.nors args) (hglb h 2):=evV_frozen rfl
theorem llaw14_tellsL0 (D:Nat)(hD:7≤D)(F:Nat)(v0:List Int)(v2:Int)(v3 v4:List Pl)(v5:Int)(v6 v7:List Pl)(v8:Int)(v9 v10:BitVec 64)(v11:Int)(K:AE→AS→Option Res):∀ (f:Nat) (v1:Int) (s:AS),s.keepG 2 [3,4,5,6,9] [4,5,6]=some ⟨[(3,.vs v0.length .unk (enc c3 v0)),(4,.lp 4 0),(5,.lp 5 0),(6,.lp 6 0),(9,.i .i64 v1)],[(4,[.i .i64 v2,.vs v3.length .unk (enc Pl.cells v3),.vs v4.length .unk (enc Pl.cells v4)]),(5,[.i .i64 v5,.vs v6.length .unk (enc Pl.cells v6),.vs v7.length .unk (enc Pl.cells v7)]),(6,[.i .i64 v8,.i .u64 (U v9),.i .u64 (U v10),.i .i64 v11])],[(0,tab64)],2⟩→
 evLoop (evC (OV F D) 2 F a32L0) f s K=match Plaw14_tellsL0 F v0 v2 v3 v4 v5 v6 v7 v8 v9 v10 v11 f v1 with|none=>none|some (.inl _)=>K .ret ⟨[(8,.b false)],[],[(0,tab64)],2⟩|some (.inr _)=>K (.ex 0) ⟨[(3,.vs v0.length .unk (enc c3 v0)),(4,.lp 4 0),(5,.lp 5 0),(6,.lp 6 0)],[(4,[.i .i64 v2,.vs v3.length .unk (enc Pl.cells v3),.vs v4.length .unk (enc Pl.cells v4)]),(5,[.i .i64 v5,.vs v6.length .unk (enc Pl.cells v6),.vs v7.length .unk (enc Pl.cells v7)]),(6,[.i .i64 v8,.i .u64 (U v9),.i .u64 (U v10),.i .i64 v11])],[(0,tab64)],2⟩:=by
 obtain ⟨D,rfl⟩:=dex hD
 have claw14_num0:=elaw14_num (D+6) (by omega) F
 have ctb_Odds0:=etb_Odds (D+6) (by omega) F
 have cref14_Odds0:=eref14_Odds (D+6) (by omega) F
 intro f
 induction f with
 |zero=>intro v1 s hs;simp only [evLoop,Plaw14_tellsL0]
 |succ f ih=>
 intro v1 s hs
 obtain ⟨k0,hk,hn,he,hr⟩:=@lk_all (OV F (D+7)) 2 F a32L0 f K
 rw [loop_succ,hk,a32L0,runC_cutg,hs]
 clear hs
 simp only [Plaw14_tellsL0]
 clear hk
 by_cases h1:v1≤(if 65<v5 then 65 else v5)
 rcases h2:(Ptb_Odds F v2 v3 v4 v1) with _|⟨r1,r2⟩
 rotate_left
 rcases h3:(Pref14_Odds F v5 v6 v7 v1) with _|⟨r3,r4⟩
 rotate_left
 by_cases h4:r1=r3
 replace h4:=eq_true h4
 by_cases h5:(Plaw14_num r2)=r4
 replace h5:=eq_true h5
 all_goals simp -implicitDefEqProofs (maxSteps:=4000000) only [*,-ih,vlaw14_num,vtb_Odds,vref14_Odds,EVA.down,ne_eq,seval]
 all_goals exact ih _ _ (by simp only [*,-ih,vlaw14_num,vtb_Odds,vref14_Odds,EVA.down,ne_eq,seval])
theorem etb_Member (D:Nat)(hD:6≤D)(F:Nat)(a0_N:Int)(a0_Stab a0_Destab:List Pl)(a1_N:Int)(a1_X a1_Z:BitVec 64)(a1_Phase:Int)(q:Bool):evW 2 (OV F D) F a25 (some [.agg [.i .i64 a0_N,.vs a0_Stab.length .unk (enc Pl.cells a0_Stab),.vs a0_Destab.length .unk (enc Pl.cells a0_Destab)],.agg [.i .i64 a1_N,.i .u64 (U a1_X),.i .u64 (U a1_Z),.i .i64 a1_Phase]]) q G0 =
 match Ptb_Member F a0_N a0_Stab a0_Destab a1_N a1_X a1_Z a1_Phase with|none=>none|some (r0,r1)=>some (.tup [.i .i64 r0,.i .i64 r1],none):=by
 obtain ⟨D,rfl⟩:=dex hD
 have ctb_Check0:=etb_Check (D+5) (by omega) F
 have cpauli_Hermitian0:=epauli_Hermitian (D+5) (by omega) F
 have ctb_sure0:=etb_sure (D+5) (by omega) F
 rw [evW_some,G0]
 simp only [Ptb_Member]
 rcases h1:(Ptb_Check F a0_N a0_Stab a0_Destab) with _|r1
 rotate_left
 by_cases h2:r1=0
 replace h2:=eq_true h2
 by_cases h3:a1_N=a0_N
 replace h3:=eq_true h3
 rcases h4:((Ppauli_Hermitian a1_N a1_X a1_Z a1_Phase)) with _|_
 rotate_left
 rcases h5:(Ptb_sure F a0_N a0_Stab a0_Destab a1_N a1_X a1_Z a1_Phase) with _|⟨r2,r3,r4,r5⟩
 rotate_left
 by_cases h6:r3=a1_X
 replace h6:=eq_true h6
 by_cases h7:r4=a1_Z
 replace h7:=eq_true h7
 by_cases h8:r5=a1_Phase
 replace h8:=eq_true h8
 all_goals simp -implicitDefEqProofs only [*,a25,vtb_Check,vpauli_Hermitian,vtb_sure,EVA.down,ne_eq,seval]
theorem vtb_Member {D F n:Nat}{args:List AV}{h:AHeap}:OV F (D+1) 25 args h n (n+1)=evW 2 (OV F D) F a25 (frzs (frz true 0 (bif AV.nors args then [] else h) 8) args) (AV.nors args) (hglb h 2):=evV_frozen rfl
theorem eref14_Member (D:Nat)(hD:6≤D)(F:Nat)(a0_N:Int)(a0_Stab a0_Destab:List Pl)(a1_N:Int)(a1_X a1_Z:BitVec 64)(a1_Phase:Int)(q:Bool):evW 2 (OV F D) F a62 (some [.agg [.i .i64 a0_N,.vs a0_Stab.length .unk (enc Pl.cells a0_Stab),.vs a0_Destab.length .unk (enc Pl.cells a0_Destab)],.agg [.i .i64 a1_N,.i .u64 (U a1_X),.i .u64 (U a1_Z),.i .i64 a1_Phase]]) q G0 =
 match Pref14_Member F a0_N a0_Stab a0_Destab a1_N a1_X a1_Z a1_Phase with|none=>none|some (r0,r1)=>some (.tup [.i .i64 r0,.i .i64 r1],none):=by
 obtain ⟨D,rfl⟩:=dex hD
 have cref14_Right0:=eref14_Right (D+5) (by omega) F
 have cref13_Right0:=eref13_Right (D+5) (by omega) F
 have cref14_loose0:=eref14_loose (D+5) (by omega) F
 have cref14_sign0:=eref14_sign (D+5) (by omega) F
 rw [evW_some,G0]
 simp only [Pref14_Member]
 rcases h1:(Pref14_Right F a0_N a0_Stab a0_Destab) with _|r1
 rotate_left
 rcases h2:(r1) with _|_
 rotate_left
 rcases h3:(Pref13_Right F a1_N a1_X a1_Z a1_Phase) with _|r2
 rotate_left
 rcases h4:(r2) with _|_
 rotate_left
 by_cases h5:a1_N=a0_N
 replace h5:=eq_true h5
 by_cases h6:(a1_Phase.tmod 2)=1
 replace h6:=eq_true h6
 rotate_left
 rcases h7:(Pref14_loose F a0_N a0_Stab a0_Destab a1_N a1_X a1_Z a1_Phase) with _|r3
 rotate_left
 by_cases h8:r3≥0
 rotate_left
 rcases h9:(Pref14_sign F a0_N a0_Stab a0_Destab a1_N a1_X a1_Z a1_Phase) with _|r4
 all_goals simp -implicitDefEqProofs only [*,a62,vref14_Right,vref13_Right,vref14_loose,vref14_sign,EVA.down,ne_eq,seval]
theorem vref14_Member {D F n:Nat}{args:List AV}{h:AHeap}:OV F (D+1) 62 args h n (n+1)=evW 2 (OV F D) F a62 (frzs (frz true 0 (bif AV.nors args then [] else h) 8) args) (AV.nors args) (hglb h 2):=evV_frozen rfl
theorem ltb_CutL0 (D:Nat)(hD:0≤D)(F:Nat)(v0 v2:List Int)(v3 v5:Int)(v6 v7:List Pl)(K:AE→AS→Option Res):∀ (f:Nat) (v1:BitVec 64) (v4:Int) (s:AS),s.keepG 2 [1,2,7,25,26,27] [2]=some ⟨[(1,.vs v0.length .unk (enc c3 v0)),(2,.lp 2 0),(7,.i .u64 (U v1)),(25,.vs v2.length .unk (enc c3 v2)),(26,.i .i64 v3),(27,.i .i64 v4)],[(2,[.i .i64 v5,.vs v6.length .unk (enc Pl.cells v6),.vs v7.length .unk (enc Pl.cells v7)])],[(0,tab64)],2⟩→
 evLoop (evC (OV F D) 2 F a22L0) f s K=match Ptb_CutL0 v0 v2 v3 v5 v6 v7 f v1 v4 with|none=>none|some (y0)=>K (.ex 0) ⟨[(1,.vs v0.length .unk (enc c3 v0)),(2,.lp 2 0),(7,.i .u64 (U y0))],[(2,[.i .i64 v5,.vs v6.length .unk (enc Pl.cells v6),.vs v7.length .unk (enc Pl.cells v7)])],[(0,tab64)],2⟩:=by
 intro f
 induction f with
 |zero=>intro v1 v4 s hs;simp only [evLoop,Ptb_CutL0]
 |succ f ih=>
 intro v1 v4 s hs
 obtain ⟨k0,hk,hn,he,hr⟩:=@lk_all (OV F (D)) 2 F a22L0 f K
 rw [loop_succ,hk,a22L0,runC_cutg,hs]
 clear hs
 simp only [Ptb_CutL0]
 clear hk
 by_cases h1:v4<v3
 rcases ixo (@pk_c3 v2 v4) with h2|⟨x1,h2⟩
 rotate_left
 by_cases h3:x1<0
 all_goals simp -implicitDefEqProofs only [*,-ih,EVA.down,ne_eq,seval]
 all_goals exact ih _ _ _ (by simp only [*,-ih,EVA.down,ne_eq,seval])
theorem ltb_CutL1 (D:Nat)(hD:0≤D)(F:Nat)(v0:List Int)(v1:BitVec 64)(v2:List Pl)(v3 v4 v5:Int)(v6 v7:List Pl)(K:AE→AS→Option Res):∀ (f:Nat) (s:AS),s.keepG 2 [1,2,7,10,40,41] [2]=some ⟨[(1,.vs v0.length .unk (enc c3 v0)),(2,.lp 2 0),(7,.i .u64 (U v1)),(10,.vs v2.length .unk (enc Pl.cells v2)),(40,.i .i64 v3),(41,.i .i64 v4)],[(2,[.i .i64 v5,.vs v6.length .unk (enc Pl.cells v6),.vs v7.length .unk (enc Pl.cells v7)])],[(0,tab64)],2⟩→
 evLoop (evC (OV F D) 2 F a22L1) f s K=match Ptb_CutL1 v0 v1 v2 v3 v4 v5 v6 v7 f with|none=>none|some (_)=>K (.ex 2) ⟨[(1,.vs v0.length .unk (enc c3 v0)),(2,.lp 2 0),(10,.vs v2.length .unk (enc Pl.cells v2))],[(2,[.i .i64 v5,.vs v6.length .unk (enc Pl.cells v6),.vs v7.length .unk (enc Pl.cells v7)])],[(0,tab64)],2⟩:=by
 intro f
 induction f with
 |zero=>intro s hs;simp only [evLoop,Ptb_CutL1]
 |succ f ih=>
 intro s hs
 obtain ⟨k0,hk,hn,he,hr⟩:=@lk_all (OV F (D)) 2 F a22L1 f K
 rw [loop_succ,hk,a22L1,runC_cutg,hs]
 clear hs
 simp only [Ptb_CutL1]
 clear hk
 by_cases h1:v4<v3
 rcases ixo (@pk_Pl_cells v2 v4) with h2|⟨x1,h2⟩
 all_goals simp -implicitDefEqProofs only [*,-ih,EVA.down,ne_eq,seval]
theorem ltb_CutL2 (D:Nat)(hD:0≤D)(F:Nat)(v0:List Int)(v2:List Pl)(v3:Int)(K:AE→AS→Option Res):∀ (f:Nat) (v1 v4:Int) (s:AS),s.keepG 2 [1,12,66,67,68] []=some ⟨[(1,.vs v0.length .unk (enc c3 v0)),(12,.i .i64 v1),(66,.vs v2.length .unk (enc Pl.cells v2)),(67,.i .i64 v3),(68,.i .i64 v4)],[],[(0,tab64)],2⟩→
 evLoop (evC (OV F D) 2 F a22L2) f s K=match Ptb_CutL2 v0 v2 v3 f v1 v4 with|none=>none|some (y0)=>K (.ex 4) ⟨[(1,.vs v0.length .unk (enc c3 v0)),(12,.i .i64 y0)],[],[(0,tab64)],2⟩:=by
 intro f
 induction f with
 |zero=>intro v1 v4 s hs;simp only [evLoop,Ptb_CutL2]
 |succ f ih=>
 intro v1 v4 s hs
 obtain ⟨k0,hk,hn,he,hr⟩:=@lk_all (OV F (D)) 2 F a22L2 f K
 rw [loop_succ,hk,a22L2,runC_cutg,hs]
 clear hs
 simp only [Ptb_CutL2]
 clear hk
 by_cases h1:v4<v3
 rcases ixo (@pk_Pl_cells v2 v4) with h2|⟨x1,h2⟩
 rotate_left
 by_cases h3:(x1.X ||| x1.Z)=0#64
 replace h3:=eq_true h3
 all_goals simp -implicitDefEqProofs only [*,-ih,EVA.down,ne_eq,seval]
 all_goals exact ih _ _ _ (by simp only [*,-ih,EVA.down,ne_eq,seval])
theorem ltb_CutL3 (D:Nat)(hD:0≤D)(F:Nat)(v0:List Int)(v1:BitVec 64)(v2 v4:Int)(v5 v6:List Pl)(K:AE→AS→Option Res):∀ (f:Nat) (v3:Int) (v7:List Pl) (s:AS),s.keepG 2 [1,2,7,10,40,41] [2]=some ⟨[(1,.vs v0.length .unk (enc c3 v0)),(2,.lp 2 0),(7,.i .u64 (U v1)),(10,.sl (some (2,0)) v7.length .op),(40,.i .i64 v2),(41,.i .i64 v3)],[(2,[.i .i64 v4,.vs v5.length .unk (enc Pl.cells v5),.vs v6.length .unk (enc Pl.cells v6)])],[(2,⟨true,true,39,4,enc Pl.cells v7⟩),(0,tab64)],3⟩→
 evLoop (evC (OV F D) 2 F a22L1) f s K=match Ptb_CutL3 v0 v1 v2 v4 v5 v6 f v3 v7 with|none=>none|some (y0)=>K (.ex 2) ⟨[(1,.vs v0.length .unk (enc c3 v0)),(2,.lp 2 0),(10,.sl (some (2,0)) y0.length .op)],[(2,[.i .i64 v4,.vs v5.length .unk (enc Pl.cells v5),.vs v6.length .unk (enc Pl.cells v6)])],[(2,⟨true,true,39,4,enc Pl.cells y0⟩),(0,tab64)],3⟩:=by
 intro f
 induction f with
 |zero=>intro v3 v7 s hs;simp only [evLoop,Ptb_CutL3]
 |succ f ih=>
 intro v3 v7 s hs
 obtain ⟨k0,hk,hn,he,hr⟩:=@lk_all (OV F (D)) 2 F a22L1 f K
 rw [loop_succ,hk,a22L1,runC_cutg,hs]
 clear hs
 simp only [Ptb_CutL3]
 clear hk
 by_cases h1:v3<v2
 rcases ixo (@pk_Pl_cells v7 v3) with h2|⟨x1,h2⟩
 rotate_left
 have h3:v3.toNat*4+1+1≤v7.length*4:=by have:=(idx_some h2.1).2.1;omega
 have h4:splice (enc Pl.cells v7) (v3.toNat*4+1) [.i .u64 (U (x1.X &&& v1))]=enc Pl.cells ((v7).set v3.toNat (⟨x1.N,x1.X &&& v1,x1.Z,x1.Ph⟩:Pl)):=enc_splice len_Pl_cells (idx_some h2.1).2.2 (show 1+1≤4 by decide) rfl
 rcases h5:(idx ((v7).set v3.toNat (⟨x1.N,x1.X &&& v1,x1.Z,x1.Ph⟩:Pl)) v3) with _|x2
 have h5o:inb v3 v7.length=false:=by have q:=idx_out h5;simpa only [List.length_set] using q
 first|exact absurd (show inb v3 v7.length=true by simp only [*,-ih,-h5o]) (by rw [h5o];exact Bool.false_ne_true)|rotate_left
 have h5i:inb v3 v7.length=true:=by have q:=idx_inb h5;simpa only [List.length_set] using q
 replace h5:=pk_Pl_cells h5
 have h6:v3.toNat*4+2+1≤v7.length*4:=by have:=(idx_some h5.1).2.1;(try simp only [List.length_set] at this);omega
 have h7:splice (enc Pl.cells ((v7).set v3.toNat (⟨x1.N,x1.X &&& v1,x1.Z,x1.Ph⟩:Pl))) (v3.toNat*4+2) [.i .u64 (U (x2.Z &&& v1))]=enc Pl.cells (((v7).set v3.toNat (⟨x1.N,x1.X &&& v1,x1.Z,x1.Ph⟩:Pl)).set v3.toNat (⟨x2.N,x2.X,x2.Z &&& v1,x2.Ph⟩:Pl)):=enc_splice len_Pl_cells (idx_some h5.1).2.2 (show 2+1≤4 by decide) rfl
 all_goals simp -implicitDefEqProofs only [*,-ih,EVA.down,ne_eq,seval]
 all_goals exact ih _ _ _ (by simp only [*,-ih,EVA.down,ne_eq,seval])
end Go.Proofs.YtogkkamlmklpkaaDoor.Ab
