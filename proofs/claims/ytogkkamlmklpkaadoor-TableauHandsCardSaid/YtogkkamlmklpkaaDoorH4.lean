/- Functions of the program as plain functions, and that the abstract machine's evaluation comes to them. Written by G.py. No condition. -/
import Derived.Test.YtogkkamlmklpkaaDoorH3
set_option maxRecDepth 100000
set_option maxHeartbeats 4000000
set_option linter.unusedVariables false
set_option linter.unusedSimpArgs false
namespace Go.Proofs.YtogkkamlmklpkaaDoor.Ab
open Go
theorem lref14_ProjectL3 (D:Nat)(hD:5≤D)(F:Nat)(v0 v1 v3:Int)(v4 v5:List Pl)(v6 v7 v8:Int)(v9 v10:BitVec 64)(v11:Int)(K:AE→AS→Option Res):∀ (f:Nat) (v2:Int) (v12 v13:List Pl) (s:AS),s.keepG 2 [2,3,6,10,11,12,13] [3,6,10,11]=some ⟨[(2,.i .i64 v0),(3,.lp 3 0),(6,.lp 6 0),(10,.lp 10 0),(11,.lp 11 0),(12,.i .i64 v1),(13,.i .i64 v2)],[(3,[.i .i64 v3,.vs v4.length .unk (enc Pl.cells v4),.vs v5.length .unk (enc Pl.cells v5)]),(6,[.i .i64 v6,.sl none 0 (.ex 0),.sl none 0 (.ex 0)]),(10,[.i .i64 v7,.sl (some (2,0)) v12.length .op,.sl (some (3,0)) v13.length .op]),(11,[.i .i64 v8,.i .u64 (U v9),.i .u64 (U v10),.i .i64 v11])],[(2,⟨true,true,39,4,enc Pl.cells v12⟩),(3,⟨true,true,39,4,enc Pl.cells v13⟩),(0,tab64)],4⟩→
 evLoop (evC (OV F D) 2 F a67L0) f s K=match Pref14_ProjectL3 F v0 v1 v3 v4 v5 v6 v7 v8 v9 v10 v11 f v2 v12 v13 with|none=>none|some (y0,y1)=>K (.ex 0) ⟨[(2,.i .i64 v0),(3,.lp 3 0),(6,.lp 6 0),(10,.lp 10 0),(11,.lp 11 0),(12,.i .i64 v1)],[(3,[.i .i64 v3,.vs v4.length .unk (enc Pl.cells v4),.vs v5.length .unk (enc Pl.cells v5)]),(6,[.i .i64 v6,.sl none 0 (.ex 0),.sl none 0 (.ex 0)]),(10,[.i .i64 v7,.sl (some (2,0)) y0.length .op,.sl (some (3,0)) y1.length .op]),(11,[.i .i64 v8,.i .u64 (U v9),.i .u64 (U v10),.i .i64 v11])],[(2,⟨true,true,39,4,enc Pl.cells y0⟩),(3,⟨true,true,39,4,enc Pl.cells y1⟩),(0,tab64)],4⟩:=by
 obtain ⟨D,rfl⟩:=dex hD
 have cref14_commute0:=eref14_commute (D+4) (by omega) F
 have cref14_times0:=eref14_times (D+4) (by omega) F
 intro f
 induction f with
 |zero=>intro v2 v12 v13 s hs;simp only [evLoop,Pref14_ProjectL3]
 |succ f ih=>
 intro v2 v12 v13 s hs
 obtain ⟨k0,hk,hn,he,hr⟩:=@lk_all (OV F (D+5)) 2 F a67L0 f K
 rw [loop_succ,hk,a67L0,runC_cutg,hs]
 clear hs
 simp only [Pref14_ProjectL3]
 clear hk
 by_cases h1:v2<v3
 by_cases h2:v2=v1
 replace h2:=eq_true h2
 rotate_left
 rcases ixo (@pk_Pl_cells v4 v2) with h3|⟨x1,h3⟩
 rotate_left
 rcases h4:(Pref14_commute F x1.N x1.X x1.Z x1.Ph v8 v9 v10 v11) with _|r2
 rotate_left
 rcases h5:(r2) with _|_
 rcases ixo (@pk_Pl_cells v4 v1) with h6|⟨x11,h6⟩
 rotate_left
 rcases h7:(Pref14_times F x1.N x1.X x1.Z x1.Ph x11.N x11.X x11.Z x11.Ph) with _|⟨r12,r13,r14,r15⟩
 rotate_left
 rcases ixo (@pk_Pl_cells v12 v2) with h8|⟨x16,h8⟩
 rotate_left
 have h9:v2.toNat*4+4≤v12.length*4:=by have:=(idx_some h8.1).2.1;omega
 have h10:splice (enc Pl.cells v12) (v2.toNat*4) [.i .i64 r12,.i .u64 (U r13),.i .u64 (U r14),.i .i64 r15]=enc Pl.cells ((v12).set v2.toNat (⟨r12,r13,r14,r15⟩:Pl)):=own_put len_Pl_cells h8.1 (⟨r12,r13,r14,r15⟩:Pl)
 rcases ixo (@pk_Pl_cells v5 v2) with h11|⟨x17,h11⟩
 rotate_left
 rcases h12:(Pref14_commute F x17.N x17.X x17.Z x17.Ph v8 v9 v10 v11) with _|r18
 rotate_left
 rcases h13:(r18) with _|_
 rcases h14:(Pref14_times F x17.N x17.X x17.Z x17.Ph x11.N x11.X x11.Z x11.Ph) with _|⟨r19,r20,r21,r22⟩
 rotate_left
 rcases ixo (@pk_Pl_cells v13 v2) with h15|⟨x23,h15⟩
 rotate_left
 have h16:v2.toNat*4+4≤v13.length*4:=by have:=(idx_some h15.1).2.1;omega
 have h17:splice (enc Pl.cells v13) (v2.toNat*4) [.i .i64 r19,.i .u64 (U r20),.i .u64 (U r21),.i .i64 r22]=enc Pl.cells ((v13).set v2.toNat (⟨r19,r20,r21,r22⟩:Pl)):=own_put len_Pl_cells h15.1 (⟨r19,r20,r21,r22⟩:Pl)
 rotate_left
 rotate_left
 rcases ixo (@pk_Pl_cells v5 v2) with h18|⟨x3,h18⟩
 rotate_left
 rcases h19:(Pref14_commute F x3.N x3.X x3.Z x3.Ph v8 v9 v10 v11) with _|r4
 rotate_left
 rcases h20:(r4) with _|_
 rcases ixo (@pk_Pl_cells v4 v1) with h21|⟨x5,h21⟩
 rotate_left
 rcases h22:(Pref14_times F x3.N x3.X x3.Z x3.Ph x5.N x5.X x5.Z x5.Ph) with _|⟨r6,r7,r8,r9⟩
 rotate_left
 rcases ixo (@pk_Pl_cells v13 v2) with h23|⟨x10,h23⟩
 rotate_left
 have h24:v2.toNat*4+4≤v13.length*4:=by have:=(idx_some h23.1).2.1;omega
 have h25:splice (enc Pl.cells v13) (v2.toNat*4) [.i .i64 r6,.i .u64 (U r7),.i .u64 (U r8),.i .i64 r9]=enc Pl.cells ((v13).set v2.toNat (⟨r6,r7,r8,r9⟩:Pl)):=own_put len_Pl_cells h23.1 (⟨r6,r7,r8,r9⟩:Pl)
 all_goals simp -implicitDefEqProofs only [*,-ih,vref14_commute,vref14_times,EVA.down,ne_eq,seval]
 all_goals exact ih _ _ _ _ (by simp only [*,-ih,vref14_commute,vref14_times,EVA.down,ne_eq,seval])
theorem eref14_Project (D:Nat)(hD:7≤D)(F:Nat)(a0_N:Int)(a0_Stab a0_Destab:List Pl)(a1 a2:Int)(q:Bool):evW 2 (OV F D) F a67 (some [.agg [.i .i64 a0_N,.vs a0_Stab.length .unk (enc Pl.cells a0_Stab),.vs a0_Destab.length .unk (enc Pl.cells a0_Destab)],.i .i64 a1,.i .i64 a2]) q G0 =
 match Pref14_Project F a0_N a0_Stab a0_Destab a1 a2 with|none=>none|some (r0,r1,r2,r3)=>some (.tup [.agg [.i .i64 r0,.vs r1.length .unk (enc Pl.cells r1),.vs r2.length .unk (enc Pl.cells r2)],.i .i64 r3],none):=by
 obtain ⟨D,rfl⟩:=dex hD
 have cref14_Copyo0:=eref14_Copyo (D+6) (by omega) F
 have cref14_letter0:=eref14_letter (D+6) (by omega) F
 have cref14_loose0:=eref14_loose (D+6) (by omega) F
 have cref14_Odds0:=eref14_Odds (D+6) (by omega) F
 rw [evW_some,G0]
 simp only [Pref14_Project]
 rcases h1:(Pref14_Odds F a0_N a0_Stab a0_Destab a1) with _|⟨r1,r2⟩
 rotate_left
 by_cases h2:r2=0
 replace h2:=eq_true h2
 by_cases h3:a2<0
 rotate_left
 by_cases h4:a2>1
 rotate_left
 by_cases h5:r1=(IntKind.i64.wrap (1-a2))
 replace h5:=eq_true h5
 rotate_left
 rcases h6:(Pref14_Copy a0_N a0_Stab a0_Destab) with _|⟨r3,r4,r5⟩
 rotate_left
 by_cases h7:r4=[]
 replace h7:=eq_true h7
 by_cases h8:r5=[]
 replace h8:=eq_true h8
 by_cases h9:r1=a2
 replace h9:=eq_true h9
 rotate_left
 rcases h10:(Pref14_letter a0_N a1 false) with ⟨r6,r7,r8,r9⟩
 rcases h11:(Pref14_loose F a0_N a0_Stab a0_Destab r6 r7 r8 r9) with _|r10
 rotate_left
 simp -implicitDefEqProofs only [*,a67,vref14_Copyo,vref14_letter,vref14_loose,vref14_Odds,runC_loop,EVA.down,ne_eq,seval]
 rw [lref14_ProjectL0 (D+7) (by omega) F a2 r10 a0_N a0_Stab a0_Destab 0 r3 ([]) ([]) r6 r7 r8 r9 _ F 0 _ (by simp only [*,a67,vref14_Copyo,vref14_letter,vref14_loose,vref14_Odds,EVA.down,ne_eq,seval];try rfl)]
 rcases h12:(Pref14_ProjectL0 F a2 r10 a0_N a0_Stab a0_Destab 0 r3 ([]) ([]) r6 r7 r8 r9 F 0) with _|_
 rotate_left
 rcases ixo (@pk_Pl_cells a0_Stab r10) with h13|⟨x11,h13⟩
 rotate_left
 have h14:inb r10 0=false:=by simp only [inb,Bool.and_eq_false_iff,decide_eq_false_iff_not];omega
 rotate_left
 by_cases h15:r1=a2
 replace h15:=eq_true h15
 rotate_left
 rcases h16:(Pref14_letter a0_N a1 false) with ⟨r12,r13,r14,r15⟩
 rcases h17:(Pref14_loose F a0_N a0_Stab a0_Destab r12 r13 r14 r15) with _|r16
 rotate_left
 simp -implicitDefEqProofs only [*,a67,vref14_Copyo,vref14_letter,vref14_loose,vref14_Odds,runC_loop,EVA.down,ne_eq,seval]
 rw [lref14_ProjectL1 (D+7) (by omega) F a2 r16 a0_N a0_Stab a0_Destab 0 r3 ([]) r12 r13 r14 r15 _ F 0 r5 _ (by simp only [*,a67,vref14_Copyo,vref14_letter,vref14_loose,vref14_Odds,EVA.down,ne_eq,seval];try rfl)]
 rcases h18:(Pref14_ProjectL1 F a2 r16 a0_N a0_Stab a0_Destab 0 r3 ([]) r12 r13 r14 r15 F 0 r5) with _|y17
 rotate_left
 have h18l0:y17.length=r5.length:=by have q:=lref14_ProjectL1n0_0 F a2 r16 a0_N a0_Stab a0_Destab 0 r3 ([]) r12 r13 r14 r15 F 0 r5 y17 h18;simpa only [List.length_set] using q
 have h18t0:=len_facts h18l0
 rcases ixo (@pk_Pl_cells a0_Stab r16) with h19|⟨x18,h19⟩
 rotate_left
 rcases h20:(idx y17 r16) with _|x19
 have h20o:inb r16 r5.length=false:=by have q:=idx_out h20;simpa only [List.length_set,h18l0] using q
 first|exact absurd (show inb r16 r5.length=true by simp only [*,-h20o]) (by rw [h20o];exact Bool.false_ne_true)|rotate_left
 have h20i:inb r16 r5.length=true:=by have q:=idx_inb h20;simpa only [List.length_set,h18l0] using q
 replace h20:=pk_Pl_cells h20
 have h21:r16.toNat*4+4≤r5.length*4:=by have:=(idx_some h20.1).2.1;(try simp only [List.length_set] at this);omega
 have h22:splice (enc Pl.cells y17) (r16.toNat*4) [.i .i64 x18.N,.i .u64 (U x18.X),.i .u64 (U x18.Z),.i .i64 x18.Ph]=enc Pl.cells ((y17).set r16.toNat x18):=own_put len_Pl_cells h20.1 x18
 have h23:inb r16 0=false:=by simp only [inb,Bool.and_eq_false_iff,decide_eq_false_iff_not];omega
 rotate_left
 by_cases h24:r5=[]
 replace h24:=eq_true h24
 by_cases h25:r1=a2
 replace h25:=eq_true h25
 rotate_left
 rcases h26:(Pref14_letter a0_N a1 false) with ⟨r20,r21,r22,r23⟩
 rcases h27:(Pref14_loose F a0_N a0_Stab a0_Destab r20 r21 r22 r23) with _|r24
 rotate_left
 simp -implicitDefEqProofs only [*,a67,vref14_Copyo,vref14_letter,vref14_loose,vref14_Odds,runC_loop,EVA.down,ne_eq,seval]
 rw [lref14_ProjectL2 (D+7) (by omega) F a2 r24 a0_N a0_Stab a0_Destab 0 r3 ([]) r20 r21 r22 r23 _ F 0 r4 _ (by simp only [*,a67,vref14_Copyo,vref14_letter,vref14_loose,vref14_Odds,EVA.down,ne_eq,seval];try rfl)]
 rcases h28:(Pref14_ProjectL2 F a2 r24 a0_N a0_Stab a0_Destab 0 r3 ([]) r20 r21 r22 r23 F 0 r4) with _|y25
 rotate_left
 have h28l0:y25.length=r4.length:=by have q:=lref14_ProjectL2n0_0 F a2 r24 a0_N a0_Stab a0_Destab 0 r3 ([]) r20 r21 r22 r23 F 0 r4 y25 h28;simpa only [List.length_set] using q
 have h28t0:=len_facts h28l0
 rcases ixo (@pk_Pl_cells a0_Stab r24) with h29|⟨x26,h29⟩
 rotate_left
 have h30:inb r24 0=false:=by simp only [inb,Bool.and_eq_false_iff,decide_eq_false_iff_not];omega
 rotate_left
 by_cases h31:r1=a2
 replace h31:=eq_true h31
 rotate_left
 rcases h32:(Pref14_letter a0_N a1 false) with ⟨r27,r28,r29,r30⟩
 rcases h33:(Pref14_loose F a0_N a0_Stab a0_Destab r27 r28 r29 r30) with _|r31
 rotate_left
 simp -implicitDefEqProofs only [*,a67,vref14_Copyo,vref14_letter,vref14_loose,vref14_Odds,runC_loop,EVA.down,ne_eq,seval]
 rw [lref14_ProjectL3 (D+7) (by omega) F a2 r31 a0_N a0_Stab a0_Destab 0 r3 r27 r28 r29 r30 _ F 0 r4 r5 _ (by simp only [*,a67,vref14_Copyo,vref14_letter,vref14_loose,vref14_Odds,EVA.down,ne_eq,seval];try rfl)]
 rcases h34:(Pref14_ProjectL3 F a2 r31 a0_N a0_Stab a0_Destab 0 r3 r27 r28 r29 r30 F 0 r4 r5) with _|⟨y32,y33⟩
 rotate_left
 have h34l0:y32.length=r4.length:=by have q:=lref14_ProjectL3n0_0 F a2 r31 a0_N a0_Stab a0_Destab 0 r3 r27 r28 r29 r30 F 0 r4 r5 y32 y33 h34;simpa only [List.length_set] using q
 have h34t0:=len_facts h34l0
 have h34l1:y33.length=r5.length:=by have q:=lref14_ProjectL3n0_1 F a2 r31 a0_N a0_Stab a0_Destab 0 r3 r27 r28 r29 r30 F 0 r4 r5 y32 y33 h34;simpa only [List.length_set] using q
 have h34t1:=len_facts h34l1
 rcases ixo (@pk_Pl_cells a0_Stab r31) with h35|⟨x34,h35⟩
 rotate_left
 rcases h36:(idx y33 r31) with _|x35
 have h36o:inb r31 r5.length=false:=by have q:=idx_out h36;simpa only [List.length_set,h34l0,h34l1] using q
 first|exact absurd (show inb r31 r5.length=true by simp only [*,-h36o]) (by rw [h36o];exact Bool.false_ne_true)|rotate_left
 have h36i:inb r31 r5.length=true:=by have q:=idx_inb h36;simpa only [List.length_set,h34l0,h34l1] using q
 replace h36:=pk_Pl_cells h36
 have h37:r31.toNat*4+4≤r5.length*4:=by have:=(idx_some h36.1).2.1;(try simp only [List.length_set] at this);omega
 have h38:splice (enc Pl.cells y33) (r31.toNat*4) [.i .i64 x34.N,.i .u64 (U x34.X),.i .u64 (U x34.Z),.i .i64 x34.Ph]=enc Pl.cells ((y33).set r31.toNat x34):=own_put len_Pl_cells h36.1 x34
 rcases h39:(idx y32 r31) with _|x36
 have h39o:inb r31 r4.length=false:=by have q:=idx_out h39;simpa only [List.length_set,h34l0,h34l1] using q
 first|exact absurd (show inb r31 r4.length=true by simp only [*,-h39o]) (by rw [h39o];exact Bool.false_ne_true)|rotate_left
 have h39i:inb r31 r4.length=true:=by have q:=idx_inb h39;simpa only [List.length_set,h34l0,h34l1] using q
 replace h39:=pk_Pl_cells h39
 have h40:r31.toNat*4+4≤r4.length*4:=by have:=(idx_some h39.1).2.1;(try simp only [List.length_set] at this);omega
 have h41:splice (enc Pl.cells y32) (r31.toNat*4) [.i .i64 r27,.i .u64 (U r28),.i .u64 (U r29),.i .i64 (IntKind.i64.wrap (2*a2))]=enc Pl.cells ((y32).set r31.toNat (⟨r27,r28,r29,IntKind.i64.wrap (2*a2)⟩:Pl)):=own_put len_Pl_cells h39.1 (⟨r27,r28,r29,IntKind.i64.wrap (2*a2)⟩:Pl)
 all_goals simp -implicitDefEqProofs only [*,a67,vref14_Copyo,vref14_letter,vref14_loose,vref14_Odds,EVA.down,ne_eq,seval]
theorem vref14_Project {D F n:Nat}{args:List AV}{h:AHeap}:OV F (D+1) 67 args h n (n+1)=evW 2 (OV F D) F a67 (frzs (frz true 0 (bif AV.nors args then [] else h) 8) args) (AV.nors args) (hglb h 2):=evV_frozen rfl
theorem etb_Settle (D:Nat)(hD:8≤D)(F:Nat)(a0_N:Int)(a0_Stab a0_Destab:List Pl)(a1 a2:Int):evW 2 (OV F D) F a43 (some [.agg [.i .i64 a0_N,.vs a0_Stab.length .unk (enc Pl.cells a0_Stab),.vs a0_Destab.length .unk (enc Pl.cells a0_Destab)],.i .i64 a1,.i .i64 a2]) true G0 =
 match Ptb_Settle F a0_N a0_Stab a0_Destab a1 a2 with|none=>none|some (r0,r1,r2,r3)=>some (.tup [.agg [.i .i64 r0,.vs r1.length .unk (enc Pl.cells r1),.vs r2.length .unk (enc Pl.cells r2)],.i .i64 r3],none):=by
 obtain ⟨D,rfl⟩:=dex hD
 have ctb_Gate0:=etb_Gate (D+7) (by omega) F
 have ctb_Project0:=etb_Project (D+7) (by omega) F
 have ctb_Gate0_4_1:=fun a0_N a0_Stab a0_Destab a1 a2_0=>etb_Gate (D+7) (by omega) F a0_N a0_Stab a0_Destab a1 [a2_0]
 simp only [List.length_nil,enc_nil,List.length_cons,enc_cons,List.cons_append,List.nil_append,Nat.zero_add,Nat.reduceAdd,Pl.cells,c3,c9] at ctb_Gate0_4_1
 rw [evW_some,G0]
 simp only [Ptb_Settle]
 rcases h1:(Ptb_Project F a0_N a0_Stab a0_Destab a1 a2) with _|⟨r1,r2,r3,r4⟩
 rotate_left
 by_cases h2:r4=0
 replace h2:=eq_true h2
 by_cases h3:a2=0
 replace h3:=eq_true h3
 rotate_left
 rcases h4:(Ptb_Gate F r1 r2 r3 2 ([a1])) with _|⟨r5,r6,r7,r8⟩
 all_goals simp -implicitDefEqProofs only [*,a43,vtb_Gate,vtb_Project,EVA.down,ne_eq,seval]
theorem vtb_Settle {D F n:Nat}{args:List AV}{h:AHeap}:OV F (D+1) 43 args h n (n+1)=evW 2 (OV F D) F a43 (frzs (frz true 0 (bif AV.nors args then [] else h) 8) args) (AV.nors args) (hglb h 2):=evV_frozen rfl
theorem eref14_Settle (D:Nat)(hD:8≤D)(F:Nat)(a0_N:Int)(a0_Stab a0_Destab:List Pl)(a1 a2:Int):evW 2 (OV F D) F a68 (some [.agg [.i .i64 a0_N,.vs a0_Stab.length .unk (enc Pl.cells a0_Stab),.vs a0_Destab.length .unk (enc Pl.cells a0_Destab)],.i .i64 a1,.i .i64 a2]) true G0 =
 match Pref14_Settle F a0_N a0_Stab a0_Destab a1 a2 with|none=>none|some (r0,r1,r2,r3)=>some (.tup [.agg [.i .i64 r0,.vs r1.length .unk (enc Pl.cells r1),.vs r2.length .unk (enc Pl.cells r2)],.i .i64 r3],none):=by
 obtain ⟨D,rfl⟩:=dex hD
 have cref14_Gate0:=eref14_Gate (D+7) (by omega) F
 have cref14_Project0:=eref14_Project (D+7) (by omega) F
 have cref14_Gate0_4_1:=fun a0_N a0_Stab a0_Destab a1 a2_0=>eref14_Gate (D+7) (by omega) F a0_N a0_Stab a0_Destab a1 [a2_0]
 simp only [List.length_nil,enc_nil,List.length_cons,enc_cons,List.cons_append,List.nil_append,Nat.zero_add,Nat.reduceAdd,Pl.cells,c3,c9] at cref14_Gate0_4_1
 rw [evW_some,G0]
 simp only [Pref14_Settle]
 rcases h1:(Pref14_Project F a0_N a0_Stab a0_Destab a1 a2) with _|⟨r1,r2,r3,r4⟩
 rotate_left
 by_cases h2:r4=0
 replace h2:=eq_true h2
 by_cases h3:a2=1
 replace h3:=eq_true h3
 rcases h4:(Pref14_Gate F r1 r2 r3 2 ([a1])) with _|⟨r5,r6,r7,r8⟩
 all_goals simp -implicitDefEqProofs only [*,a68,vref14_Gate,vref14_Project,EVA.down,ne_eq,seval]
theorem vref14_Settle {D F n:Nat}{args:List AV}{h:AHeap}:OV F (D+1) 68 args h n (n+1)=evW 2 (OV F D) F a68 (frzs (frz true 0 (bif AV.nors args then [] else h) 8) args) (AV.nors args) (hglb h 2):=evV_frozen rfl
theorem ltb_unlikeL0 (D:Nat)(hD:2≤D)(F:Nat)(v0:List Int)(v1:Int)(v2:List Int)(v3:Int)(K:AE→AS→Option Res):∀ (f:Nat) (v4:Int) (s:AS),s.keep [0,1,7,8,9] []=some ⟨[(0,.vs v0.length .unk (enc c3 v0)),(1,.i .i64 v1),(7,.vs v2.length .unk (enc c3 v2)),(8,.i .i64 v3),(9,.i .i64 v4)],[],[(0,tab64)],2⟩→
 evLoop (evC (OV F D) 2 F a53L0) f s K=match Ptb_unlikeL0 F v0 v1 v2 v3 f v4 with|none=>none|some (.inl _)=>K .ret ⟨[(4,.b false)],[],[(0,tab64)],2⟩|some (.inr _)=>K (.ex 0) ⟨[],[],[(0,tab64)],2⟩:=by
 obtain ⟨D,rfl⟩:=dex hD
 have cslices_Contains_int0:=eslices_Contains_int (D+1) (by omega) F
 intro f
 induction f with
 |zero=>intro v4 s hs;simp only [evLoop,Ptb_unlikeL0]
 |succ f ih=>
 intro v4 s hs
 obtain ⟨k0,hk,hn,he,hr⟩:=@lk_all (OV F (D+2)) 2 F a53L0 f K
 rw [loop_succ,hk,a53L0,runC_cut,hs]
 clear hs
 simp only [Ptb_unlikeL0]
 clear hk
 by_cases h1:v4<v3
 rcases ixo (@pk_c3 v2 v4) with h2|⟨x1,h2⟩
 rotate_left
 by_cases h3:x1<0
 rotate_left
 by_cases h4:x1≥v1
 rotate_left
 by_cases h5:0≤v4∧v4≤(v0.length:Int)
 have h6:∀ cap x,AV.vs v4.toNat cap x=AV.vs (v0.take v4.toNat).length cap x:=by intro cap x;congr 1;simp only [List.length_take,List.length_drop];omega
 rcases h7:(Pslices_Contains_int F (v0.take v4.toNat) x1) with _|r2
 rotate_left
 rcases h8:(r2) with _|_
 all_goals simp -implicitDefEqProofs only [*,-ih,vslices_Contains_int,EVA.down,ne_eq,seval]
 all_goals exact ih _ _ (by simp only [*,-ih,vslices_Contains_int,EVA.down,ne_eq,seval])
theorem etb_unlike (D:Nat)(hD:2≤D)(F:Nat)(a0:List Int)(a1:Int)(q:Bool):evW 2 (OV F D) F a53 (some [.vs a0.length .unk (enc c3 a0),.i .i64 a1]) q G0 =
 match Ptb_unlike F a0 a1 with|none=>none|some r0=>some (.b r0,none):=by
 obtain ⟨D,rfl⟩:=dex hD
 rw [evW_some,G0]
 simp only [Ptb_unlike]
 simp -implicitDefEqProofs only [*,a53,runC_loop,EVA.down,ne_eq,seval]
 rw [ltb_unlikeL0 (D+2) (by omega) F a0 a1 a0 (a0.length:Int) _ F 0 _ (by simp only [*,a53,EVA.down,ne_eq,seval];try rfl)]
 rcases h1:(Ptb_unlikeL0 F a0 a1 a0 (a0.length:Int) F 0) with _|(_|_)
 all_goals simp -implicitDefEqProofs only [*,a53,EVA.down,ne_eq,seval]
theorem vtb_unlike {D F n:Nat}{args:List AV}{h:AHeap}:OV F (D+1) 53 args h n (n+1)=evW 2 (OV F D) F a53 (frzs (frz true 0 (bif AV.nors args then [] else h) 8) args) (AV.nors args) (hglb h 2):=evV_frozen rfl
theorem ltb_OrderL0 (D:Nat)(hD:0≤D)(F:Nat)(v0:List Int)(v1:List Pl)(v2 v3:Int)(v4:List Pl)(v5 v6 v7 v8:Int)(v9 v10 v11 v12:List Pl)(K:AE→AS→Option Res):∀ (f:Nat) (s:AS),s.keepG 2 [1,4,7,9,39,40,41,45,46,47] [4,7]=some ⟨[(1,.vs v0.length .unk (enc c3 v0)),(4,.lp 4 0),(7,.lp 7 0),(9,.vs v1.length .unk (enc Pl.cells v1)),(39,.sl (some (2,0)) 2 (.ex (2))),(40,.i .i64 v2),(41,.i .i64 v3),(45,.vs v4.length .unk (enc Pl.cells v4)),(46,.i .i64 v5),(47,.i .i64 v6)],[(4,[.i .i64 v7,.sl none 0 (.ex 0),.sl none 0 (.ex 0)]),(7,[.i .i64 v8,.vs v9.length .unk (enc Pl.cells v9),.vs v10.length .unk (enc Pl.cells v10)])],[(2,⟨true,false,22,1,[.vs v11.length .unk (enc Pl.cells v11),.vs v12.length .unk (enc Pl.cells v12)]⟩),(0,tab64)],3⟩→
 evLoop (evC (OV F D) 2 F a69L1) f s K=match Ptb_OrderL0 v0 v1 v2 v3 v4 v5 v6 v7 v8 v9 v10 v11 v12 f with|none=>none|some (_)=>K (.ex 2) ⟨[(1,.vs v0.length .unk (enc c3 v0)),(4,.lp 4 0),(7,.lp 7 0),(39,.sl (some (2,0)) 2 (.ex (2))),(40,.i .i64 v2),(41,.i .i64 v3)],[(4,[.i .i64 v7,.sl none 0 (.ex 0),.sl none 0 (.ex 0)]),(7,[.i .i64 v8,.vs v9.length .unk (enc Pl.cells v9),.vs v10.length .unk (enc Pl.cells v10)])],[(2,⟨true,false,22,1,[.vs v11.length .unk (enc Pl.cells v11),.vs v12.length .unk (enc Pl.cells v12)]⟩),(0,tab64)],3⟩:=by
 intro f
 induction f with
 |zero=>intro s hs;simp only [evLoop,Ptb_OrderL0]
 |succ f ih=>
 intro s hs
 obtain ⟨k0,hk,hn,he,hr⟩:=@lk_all (OV F (D)) 2 F a69L1 f K
 rw [loop_succ,hk,a69L1,runC_cutg,hs]
 clear hs
 simp only [Ptb_OrderL0]
 clear hk
 by_cases h1:v6<v5
 rcases ixo (@pk_Pl_cells v4 v6) with h2|⟨x1,h2⟩
 rotate_left
 rcases ixo (@pk_Pl_cells v1 v6) with h3|⟨x2,h3⟩
 all_goals simp -implicitDefEqProofs only [*,-ih,EVA.down,ne_eq,seval]
theorem ltb_OrderL1 (D:Nat)(hD:0≤D)(F:Nat)(v0:List Int)(v1 v3 v4:Int)(v5 v6 v7 v8:List Pl)(K:AE→AS→Option Res):∀ (f:Nat) (v2:Int) (s:AS),s.keepG 2 [1,4,7,39,40,41] [4,7]=some ⟨[(1,.vs v0.length .unk (enc c3 v0)),(4,.lp 4 0),(7,.lp 7 0),(39,.sl (some (2,0)) 2 (.ex (2))),(40,.i .i64 v1),(41,.i .i64 v2)],[(4,[.i .i64 v3,.sl none 0 (.ex 0),.sl none 0 (.ex 0)]),(7,[.i .i64 v4,.vs v5.length .unk (enc Pl.cells v5),.vs v6.length .unk (enc Pl.cells v6)])],[(2,⟨true,false,22,1,[.vs v7.length .unk (enc Pl.cells v7),.vs v8.length .unk (enc Pl.cells v8)]⟩),(0,tab64)],3⟩→
 evLoop (evC (OV F D) 2 F a69L2) f s K=match Ptb_OrderL1 F v0 v1 v3 v4 v5 v6 v7 v8 f v2 with|none=>none|some (_)=>K (.ex 0) ⟨[(4,.lp 4 0),(7,.lp 7 0)],[(4,[.i .i64 v3,.sl none 0 (.ex 0),.sl none 0 (.ex 0)]),(7,[.i .i64 v4,.vs v5.length .unk (enc Pl.cells v5),.vs v6.length .unk (enc Pl.cells v6)])],[(0,tab64)],2⟩:=by
 intro f
 induction f with
 |zero=>intro v2 s hs;simp only [evLoop,Ptb_OrderL1]
 |succ f ih=>
 intro v2 s hs
 obtain ⟨k0,hk,hn,he,hr⟩:=@lk_all (OV F (D)) 2 F a69L2 f K
 rw [loop_succ,hk,a69L2,runC_cutg,hs]
 clear hs
 simp only [Ptb_OrderL1]
 clear hk
 by_cases h1:v2<v1
 by_cases h2:v2=0
 replace h2:=eq_true h2
 have h3:inb v2 2=true:=by rw [(of_eq_true h2)];decide
 have h4:Int.toNat v2=0:=by rw [(of_eq_true h2)];rfl
 simp -implicitDefEqProofs only [*,-ih,runC_loop,EVA.down,ne_eq,seval]
 rw [ltb_OrderL0 (D) (by omega) F v0 v7 v1 v2 v7 (v7.length:Int) 0 v3 v4 v5 v6 v7 v8 _ F  _ (by simp only [*,-ih,EVA.down,ne_eq,seval];try rfl)]
 rcases h5:(Ptb_OrderL0 v0 v7 v1 v2 v7 (v7.length:Int) 0 v3 v4 v5 v6 v7 v8 F) with _|_
 rotate_left
 rotate_left
 by_cases h6:v2=1
 replace h6:=eq_true h6
 have h7:inb v2 2=true:=by rw [(of_eq_true h6)];decide
 have h8:Int.toNat v2=1:=by rw [(of_eq_true h6)];rfl
 simp -implicitDefEqProofs only [*,-ih,runC_loop,EVA.down,ne_eq,seval]
 rw [ltb_OrderL0 (D) (by omega) F v0 v8 v1 v2 v8 (v8.length:Int) 0 v3 v4 v5 v6 v7 v8 _ F  _ (by simp only [*,-ih,EVA.down,ne_eq,seval];try rfl)]
 rcases h9:(Ptb_OrderL0 v0 v8 v1 v2 v8 (v8.length:Int) 0 v3 v4 v5 v6 v7 v8 F) with _|_
 rotate_left
 rotate_left
 have h10:inb v2 2=false:=by simp only [inb,Bool.and_eq_false_iff,decide_eq_false_iff_not];omega
 all_goals simp -implicitDefEqProofs only [*,-ih,EVA.down,ne_eq,seval]
 all_goals exact ih _ _ (by simp only [*,-ih,EVA.down,ne_eq,seval])
theorem ltb_OrderL2 (D:Nat)(hD:0≤D)(F:Nat)(v0:List Int)(v1:List Pl)(v2 v3:Int)(v4:List Pl)(v5 v6 v7 v8:Int)(v9 v10 v11:List Pl)(K:AE→AS→Option Res):∀ (f:Nat) (s:AS),s.keepG 2 [1,4,7,9,39,40,41,45,46,47] [4,7]=some ⟨[(1,.vs v0.length .unk (enc c3 v0)),(4,.lp 4 0),(7,.lp 7 0),(9,.vs v1.length .unk (enc Pl.cells v1)),(39,.sl (some (2,0)) 2 (.ex (2))),(40,.i .i64 v2),(41,.i .i64 v3),(45,.vs v4.length .unk (enc Pl.cells v4)),(46,.i .i64 v5),(47,.i .i64 v6)],[(4,[.i .i64 v7,.sl none 0 (.ex 0),.sl none 0 (.ex 0)]),(7,[.i .i64 v8,.vs v9.length .unk (enc Pl.cells v9),.sl (some (3,0)) v11.length .op])],[(2,⟨true,false,22,1,[.vs v10.length .unk (enc Pl.cells v10),.sl (some (3,0)) v11.length .op]⟩),(3,⟨true,true,39,4,enc Pl.cells v11⟩),(0,tab64)],4⟩→
 evLoop (evC (OV F D) 2 F a69L1) f s K=match Ptb_OrderL2 v0 v1 v2 v3 v4 v5 v6 v7 v8 v9 v10 v11 f with|none=>none|some (_)=>K (.ex 2) ⟨[(1,.vs v0.length .unk (enc c3 v0)),(4,.lp 4 0),(7,.lp 7 0),(39,.sl (some (2,0)) 2 (.ex (2))),(40,.i .i64 v2),(41,.i .i64 v3)],[(4,[.i .i64 v7,.sl none 0 (.ex 0),.sl none 0 (.ex 0)]),(7,[.i .i64 v8,.vs v9.length .unk (enc Pl.cells v9),.sl (some (3,0)) v11.length .op])],[(2,⟨true,false,22,1,[.vs v10.length .unk (enc Pl.cells v10),.sl (some (3,0)) v11.length .op]⟩),(3,⟨true,true,39,4,enc Pl.cells v11⟩),(0,tab64)],4⟩:=by
 intro f
 induction f with
 |zero=>intro s hs;simp only [evLoop,Ptb_OrderL2]
 |succ f ih=>
 intro s hs
 obtain ⟨k0,hk,hn,he,hr⟩:=@lk_all (OV F (D)) 2 F a69L1 f K
 rw [loop_succ,hk,a69L1,runC_cutg,hs]
 clear hs
 simp only [Ptb_OrderL2]
 clear hk
 by_cases h1:v6<v5
 rcases ixo (@pk_Pl_cells v4 v6) with h2|⟨x1,h2⟩
 rotate_left
 rcases ixo (@pk_Pl_cells v1 v6) with h3|⟨x2,h3⟩
 all_goals simp -implicitDefEqProofs only [*,-ih,EVA.down,ne_eq,seval]
theorem ltb_OrderL3 (D:Nat)(hD:0≤D)(F:Nat)(v0:List Int)(v1 v2 v3 v4 v5:Int)(v6:List Int)(v7 v9 v10:Int)(v11:List Pl)(v12:Int)(v13 v14:BitVec 64)(v15:Int)(v17:List Pl)(K:AE→AS→Option Res):∀ (f:Nat) (v8:Int) (v16:List Pl) (s:AS),s.keepG 2 [1,4,7,9,10,11,39,40,41,45,46,47,60,61,62] [4,7,11]=some ⟨[(1,.vs v0.length .unk (enc c3 v0)),(4,.lp 4 0),(7,.lp 7 0),(9,.sl (some (2,0)) v16.length .op),(10,.i .i64 v1),(11,.lp 11 0),(39,.sl (some (3,0)) 2 (.ex (2))),(40,.i .i64 v2),(41,.i .i64 v3),(45,.sl (some (2,0)) v16.length .op),(46,.i .i64 v4),(47,.i .i64 v5),(60,.vs v6.length .unk (enc c3 v6)),(61,.i .i64 v7),(62,.i .i64 v8)],[(4,[.i .i64 v9,.sl none 0 (.ex 0),.sl none 0 (.ex 0)]),(7,[.i .i64 v10,.vs v11.length .unk (enc Pl.cells v11),.sl (some (2,0)) v16.length .op]),(11,[.i .i64 v12,.i .u64 (U v13),.i .u64 (U v14),.i .i64 v15])],[(2,⟨true,true,39,4,enc Pl.cells v16⟩),(3,⟨true,false,22,1,[.vs v17.length .unk (enc Pl.cells v17),.sl (some (2,0)) v16.length .op]⟩),(0,tab64)],4⟩→
 evLoop (evC (OV F D) 2 F a69L0) f s K=match Ptb_OrderL3 v0 v1 v2 v3 v4 v5 v6 v7 v9 v10 v11 v12 v13 v14 v15 v17 f v8 v16 with|none=>none|some (y0)=>K (.ex 4) ⟨[(1,.vs v0.length .unk (enc c3 v0)),(4,.lp 4 0),(7,.lp 7 0),(9,.sl (some (2,0)) y0.length .op),(39,.sl (some (3,0)) 2 (.ex (2))),(40,.i .i64 v2),(41,.i .i64 v3),(45,.sl (some (2,0)) y0.length .op),(46,.i .i64 v4),(47,.i .i64 v5)],[(4,[.i .i64 v9,.sl none 0 (.ex 0),.sl none 0 (.ex 0)]),(7,[.i .i64 v10,.vs v11.length .unk (enc Pl.cells v11),.sl (some (2,0)) y0.length .op])],[(2,⟨true,true,39,4,enc Pl.cells y0⟩),(3,⟨true,false,22,1,[.vs v17.length .unk (enc Pl.cells v17),.sl (some (2,0)) y0.length .op]⟩),(0,tab64)],4⟩:=by
 intro f
 induction f with
 |zero=>intro v8 v16 s hs;simp only [evLoop,Ptb_OrderL3]
 |succ f ih=>
 intro v8 v16 s hs
 obtain ⟨k0,hk,hn,he,hr⟩:=@lk_all (OV F (D)) 2 F a69L0 f K
 rw [loop_succ,hk,a69L0,runC_cutg,hs]
 clear hs
 simp only [Ptb_OrderL3]
 clear hk
 by_cases h1:v8<v7
 rcases ixo (@pk_c3 v6 v8) with h2|⟨x1,h2⟩
 rotate_left
 rcases ixo (@pk_Pl_cells v16 v1) with h3|⟨x2,h3⟩
 rotate_left
 by_cases h4:v8<0
 rotate_left
 by_cases h5:x1<0
 rotate_left
 have h6:v1.toNat*4+1+1≤v16.length*4:=by have:=(idx_some h3.1).2.1;omega
 have h7:splice (enc Pl.cells v16) (v1.toNat*4+1) [.i .u64 (U (x2.X ||| (((v13 >>> v8.toNat) &&& 1#64) <<< x1.toNat)))]=enc Pl.cells ((v16).set v1.toNat (⟨x2.N,x2.X ||| (((v13 >>> v8.toNat) &&& 1#64) <<< x1.toNat),x2.Z,x2.Ph⟩:Pl)):=enc_splice len_Pl_cells (idx_some h3.1).2.2 (show 1+1≤4 by decide) rfl
 rcases h8:(idx ((v16).set v1.toNat (⟨x2.N,x2.X ||| (((v13 >>> v8.toNat) &&& 1#64) <<< x1.toNat),x2.Z,x2.Ph⟩:Pl)) v1) with _|x3
 have h8o:inb v1 v16.length=false:=by have q:=idx_out h8;simpa only [List.length_set] using q
 first|exact absurd (show inb v1 v16.length=true by simp only [*,-ih,-h8o]) (by rw [h8o];exact Bool.false_ne_true)|rotate_left
 have h8i:inb v1 v16.length=true:=by have q:=idx_inb h8;simpa only [List.length_set] using q
 replace h8:=pk_Pl_cells h8
 have h9:v1.toNat*4+2+1≤v16.length*4:=by have:=(idx_some h8.1).2.1;(try simp only [List.length_set] at this);omega
 have h10:splice (enc Pl.cells ((v16).set v1.toNat (⟨x2.N,x2.X ||| (((v13 >>> v8.toNat) &&& 1#64) <<< x1.toNat),x2.Z,x2.Ph⟩:Pl))) (v1.toNat*4+2) [.i .u64 (U (x3.Z ||| (((v14 >>> v8.toNat) &&& 1#64) <<< x1.toNat)))]=enc Pl.cells (((v16).set v1.toNat (⟨x2.N,x2.X ||| (((v13 >>> v8.toNat) &&& 1#64) <<< x1.toNat),x2.Z,x2.Ph⟩:Pl)).set v1.toNat (⟨x3.N,x3.X,x3.Z ||| (((v14 >>> v8.toNat) &&& 1#64) <<< x1.toNat),x3.Ph⟩:Pl)):=enc_splice len_Pl_cells (idx_some h8.1).2.2 (show 2+1≤4 by decide) rfl
 all_goals simp -implicitDefEqProofs only [*,-ih,EVA.down,ne_eq,seval]
 all_goals exact ih _ _ _ (by simp only [*,-ih,EVA.down,ne_eq,seval])
theorem ltb_OrderL4 (D:Nat)(hD:0≤D)(F:Nat)(v0:List Int)(v1 v2 v3 v5 v6:Int)(v7 v9:List Pl)(K:AE→AS→Option Res):∀ (f:Nat) (v4:Int) (v8:List Pl) (s:AS),s.keepG 2 [1,4,7,9,39,40,41,45,46,47] [4,7]=some ⟨[(1,.vs v0.length .unk (enc c3 v0)),(4,.lp 4 0),(7,.lp 7 0),(9,.sl (some (2,0)) v8.length .op),(39,.sl (some (3,0)) 2 (.ex (2))),(40,.i .i64 v1),(41,.i .i64 v2),(45,.sl (some (2,0)) v8.length .op),(46,.i .i64 v3),(47,.i .i64 v4)],[(4,[.i .i64 v5,.sl none 0 (.ex 0),.sl none 0 (.ex 0)]),(7,[.i .i64 v6,.vs v7.length .unk (enc Pl.cells v7),.sl (some (2,0)) v8.length .op])],[(2,⟨true,true,39,4,enc Pl.cells v8⟩),(3,⟨true,false,22,1,[.vs v9.length .unk (enc Pl.cells v9),.sl (some (2,0)) v8.length .op]⟩),(0,tab64)],4⟩→
 evLoop (evC (OV F D) 2 F a69L1) f s K=match Ptb_OrderL4 F v0 v1 v2 v3 v5 v6 v7 v9 f v4 v8 with|none=>none|some (y0)=>K (.ex 2) ⟨[(1,.vs v0.length .unk (enc c3 v0)),(4,.lp 4 0),(7,.lp 7 0),(39,.sl (some (2,0)) 2 (.ex (2))),(40,.i .i64 v1),(41,.i .i64 v2)],[(4,[.i .i64 v5,.sl none 0 (.ex 0),.sl none 0 (.ex 0)]),(7,[.i .i64 v6,.vs v7.length .unk (enc Pl.cells v7),.sl (some (3,0)) y0.length .op])],[(2,⟨true,false,22,1,[.vs v9.length .unk (enc Pl.cells v9),.sl (some (3,0)) y0.length .op]⟩),(3,⟨true,true,39,4,enc Pl.cells y0⟩),(0,tab64)],4⟩:=by
 intro f
 induction f with
 |zero=>intro v4 v8 s hs;simp only [evLoop,Ptb_OrderL4]
 |succ f ih=>
 intro v4 v8 s hs
 obtain ⟨k0,hk,hn,he,hr⟩:=@lk_all (OV F (D)) 2 F a69L1 f K
 rw [loop_succ,hk,a69L1,runC_cutg,hs]
 clear hs
 simp only [Ptb_OrderL4]
 clear hk
 by_cases h1:v4<v3
 rcases ixo (@pk_Pl_cells v8 v4) with h2|⟨x1,h2⟩
 rotate_left
 have h3:v4.toNat*4+1+1≤v8.length*4:=by have:=(idx_some h2.1).2.1;omega
 have h4:splice (enc Pl.cells v8) (v4.toNat*4+1) [.i .u64 (U (0#64))]=enc Pl.cells ((v8).set v4.toNat (⟨x1.N,0#64,x1.Z,x1.Ph⟩:Pl)):=enc_splice len_Pl_cells (idx_some h2.1).2.2 (show 1+1≤4 by decide) rfl
 rcases h5:(idx ((v8).set v4.toNat (⟨x1.N,0#64,x1.Z,x1.Ph⟩:Pl)) v4) with _|x2
 have h5o:inb v4 v8.length=false:=by have q:=idx_out h5;simpa only [List.length_set] using q
 first|exact absurd (show inb v4 v8.length=true by simp only [*,-ih,-h5o]) (by rw [h5o];exact Bool.false_ne_true)|rotate_left
 have h5i:inb v4 v8.length=true:=by have q:=idx_inb h5;simpa only [List.length_set] using q
 replace h5:=pk_Pl_cells h5
 have h6:v4.toNat*4+2+1≤v8.length*4:=by have:=(idx_some h5.1).2.1;(try simp only [List.length_set] at this);omega
 have h7:splice (enc Pl.cells ((v8).set v4.toNat (⟨x1.N,0#64,x1.Z,x1.Ph⟩:Pl))) (v4.toNat*4+2) [.i .u64 (U (0#64))]=enc Pl.cells (((v8).set v4.toNat (⟨x1.N,0#64,x1.Z,x1.Ph⟩:Pl)).set v4.toNat (⟨x2.N,x2.X,0#64,x2.Ph⟩:Pl)):=enc_splice len_Pl_cells (idx_some h5.1).2.2 (show 2+1≤4 by decide) rfl
 simp -implicitDefEqProofs only [*,-ih,runC_loop,EVA.down,ne_eq,seval]
 rw [ltb_OrderL3 (D) (by omega) F v0 v4 v1 v2 v3 v4 v0 (v0.length:Int) v5 v6 v7 x1.N x1.X x1.Z x1.Ph v9 _ F 0 (((v8).set v4.toNat (⟨x1.N,0#64,x1.Z,x1.Ph⟩:Pl)).set v4.toNat (⟨x2.N,x2.X,0#64,x2.Ph⟩:Pl)) _ (by simp only [*,-ih,EVA.down,ne_eq,seval];try rfl)]
 rcases h8:(Ptb_OrderL3 v0 v4 v1 v2 v3 v4 v0 (v0.length:Int) v5 v6 v7 x1.N x1.X x1.Z x1.Ph v9 F 0 (((v8).set v4.toNat (⟨x1.N,0#64,x1.Z,x1.Ph⟩:Pl)).set v4.toNat (⟨x2.N,x2.X,0#64,x2.Ph⟩:Pl))) with _|y3
 rotate_left
 have h8l0:y3.length=v8.length:=by have q:=ltb_OrderL3n0_0 v0 v4 v1 v2 v3 v4 v0 (v0.length:Int) v5 v6 v7 x1.N x1.X x1.Z x1.Ph v9 F 0 (((v8).set v4.toNat (⟨x1.N,0#64,x1.Z,x1.Ph⟩:Pl)).set v4.toNat (⟨x2.N,x2.X,0#64,x2.Ph⟩:Pl)) y3 h8;simpa only [List.length_set] using q
 have h8t0:=len_facts h8l0
 all_goals simp -implicitDefEqProofs only [*,-ih,EVA.down,ne_eq,seval]
 all_goals exact ih _ _ _ (by simp only [*,-ih,EVA.down,ne_eq,seval])
theorem ltb_OrderL5 (D:Nat)(hD:0≤D)(F:Nat)(v0:List Int)(v1 v3 v4:Int)(v5 v6:List Pl)(K:AE→AS→Option Res):∀ (f:Nat) (v2:Int) (v7:List Pl) (s:AS),s.keepG 2 [1,4,7,39,40,41] [4,7]=some ⟨[(1,.vs v0.length .unk (enc c3 v0)),(4,.lp 4 0),(7,.lp 7 0),(39,.sl (some (2,0)) 2 (.ex (2))),(40,.i .i64 v1),(41,.i .i64 v2)],[(4,[.i .i64 v3,.sl none 0 (.ex 0),.sl none 0 (.ex 0)]),(7,[.i .i64 v4,.vs v5.length .unk (enc Pl.cells v5),.sl (some (3,0)) v7.length .op])],[(2,⟨true,false,22,1,[.vs v6.length .unk (enc Pl.cells v6),.sl (some (3,0)) v7.length .op]⟩),(3,⟨true,true,39,4,enc Pl.cells v7⟩),(0,tab64)],4⟩→
 evLoop (evC (OV F D) 2 F a69L2) f s K=match Ptb_OrderL5 F v0 v1 v3 v4 v5 v6 f v2 v7 with|none=>none|some (y0)=>K (.ex 0) ⟨[(4,.lp 4 0),(7,.lp 7 0)],[(4,[.i .i64 v3,.sl none 0 (.ex 0),.sl none 0 (.ex 0)]),(7,[.i .i64 v4,.vs v5.length .unk (enc Pl.cells v5),.sl (some (2,0)) y0.length .op])],[(2,⟨true,true,39,4,enc Pl.cells y0⟩),(0,tab64)],3⟩:=by
 intro f
 induction f with
 |zero=>intro v2 v7 s hs;simp only [evLoop,Ptb_OrderL5]
 |succ f ih=>
 intro v2 v7 s hs
 obtain ⟨k0,hk,hn,he,hr⟩:=@lk_all (OV F (D)) 2 F a69L2 f K
 rw [loop_succ,hk,a69L2,runC_cutg,hs]
 clear hs
 simp only [Ptb_OrderL5]
 clear hk
 by_cases h1:v2<v1
 by_cases h2:v2=0
 replace h2:=eq_true h2
 have h3:inb v2 2=true:=by rw [(of_eq_true h2)];decide
 have h4:Int.toNat v2=0:=by rw [(of_eq_true h2)];rfl
 simp -implicitDefEqProofs only [*,-ih,runC_loop,EVA.down,ne_eq,seval]
 rw [ltb_OrderL2 (D) (by omega) F v0 v6 v1 v2 v6 (v6.length:Int) 0 v3 v4 v5 v6 v7 _ F  _ (by simp only [*,-ih,EVA.down,ne_eq,seval];try rfl)]
 rcases h5:(Ptb_OrderL2 v0 v6 v1 v2 v6 (v6.length:Int) 0 v3 v4 v5 v6 v7 F) with _|_
 rotate_left
 rotate_left
 by_cases h6:v2=1
 replace h6:=eq_true h6
 have h7:inb v2 2=true:=by rw [(of_eq_true h6)];decide
 have h8:Int.toNat v2=1:=by rw [(of_eq_true h6)];rfl
 simp -implicitDefEqProofs only [*,-ih,runC_loop,EVA.down,ne_eq,seval]
 rw [ltb_OrderL4 (D) (by omega) F v0 v1 v2 ((v7.length:Nat):Int) v3 v4 v5 v6 _ F 0 v7 _ (by simp only [*,-ih,EVA.down,ne_eq,seval];try rfl)]
 rcases h9:(Ptb_OrderL4 F v0 v1 v2 ((v7.length:Nat):Int) v3 v4 v5 v6 F 0 v7) with _|y1
 rotate_left
 rotate_left
 have h10:inb v2 2=false:=by simp only [inb,Bool.and_eq_false_iff,decide_eq_false_iff_not];omega
 all_goals simp -implicitDefEqProofs only [*,-ih,EVA.down,ne_eq,seval]
 all_goals exact ih _ _ _ (by simp only [*,-ih,EVA.down,ne_eq,seval])
theorem ltb_OrderL6 (D:Nat)(hD:0≤D)(F:Nat)(v0:List Int)(v1 v2 v3 v4 v5:Int)(v6:List Int)(v7 v9 v10:Int)(v11:List Pl)(v12:Int)(v13 v14:BitVec 64)(v15:Int)(v17:List Pl)(K:AE→AS→Option Res):∀ (f:Nat) (v8:Int) (v16:List Pl) (s:AS),s.keepG 2 [1,4,7,9,10,11,39,40,41,45,46,47,60,61,62] [4,7,11]=some ⟨[(1,.vs v0.length .unk (enc c3 v0)),(4,.lp 4 0),(7,.lp 7 0),(9,.sl (some (2,0)) v16.length .op),(10,.i .i64 v1),(11,.lp 11 0),(39,.sl (some (3,0)) 2 (.ex (2))),(40,.i .i64 v2),(41,.i .i64 v3),(45,.sl (some (2,0)) v16.length .op),(46,.i .i64 v4),(47,.i .i64 v5),(60,.vs v6.length .unk (enc c3 v6)),(61,.i .i64 v7),(62,.i .i64 v8)],[(4,[.i .i64 v9,.sl none 0 (.ex 0),.sl none 0 (.ex 0)]),(7,[.i .i64 v10,.sl (some (2,0)) v16.length .op,.vs v11.length .unk (enc Pl.cells v11)]),(11,[.i .i64 v12,.i .u64 (U v13),.i .u64 (U v14),.i .i64 v15])],[(2,⟨true,true,39,4,enc Pl.cells v16⟩),(3,⟨true,false,22,1,[.sl (some (2,0)) v16.length .op,.vs v17.length .unk (enc Pl.cells v17)]⟩),(0,tab64)],4⟩→
 evLoop (evC (OV F D) 2 F a69L0) f s K=match Ptb_OrderL6 v0 v1 v2 v3 v4 v5 v6 v7 v9 v10 v11 v12 v13 v14 v15 v17 f v8 v16 with|none=>none|some (y0)=>K (.ex 4) ⟨[(1,.vs v0.length .unk (enc c3 v0)),(4,.lp 4 0),(7,.lp 7 0),(9,.sl (some (2,0)) y0.length .op),(39,.sl (some (3,0)) 2 (.ex (2))),(40,.i .i64 v2),(41,.i .i64 v3),(45,.sl (some (2,0)) y0.length .op),(46,.i .i64 v4),(47,.i .i64 v5)],[(4,[.i .i64 v9,.sl none 0 (.ex 0),.sl none 0 (.ex 0)]),(7,[.i .i64 v10,.sl (some (2,0)) y0.length .op,.vs v11.length .unk (enc Pl.cells v11)])],[(2,⟨true,true,39,4,enc Pl.cells y0⟩),(3,⟨true,false,22,1,[.sl (some (2,0)) y0.length .op,.vs v17.length .unk (enc Pl.cells v17)]⟩),(0,tab64)],4⟩:=by
 intro f
 induction f with
 |zero=>intro v8 v16 s hs;simp only [evLoop,Ptb_OrderL6]
 |succ f ih=>
 intro v8 v16 s hs
 obtain ⟨k0,hk,hn,he,hr⟩:=@lk_all (OV F (D)) 2 F a69L0 f K
 rw [loop_succ,hk,a69L0,runC_cutg,hs]
 clear hs
 simp only [Ptb_OrderL6]
 clear hk
 by_cases h1:v8<v7
 rcases ixo (@pk_c3 v6 v8) with h2|⟨x1,h2⟩
 rotate_left
 rcases ixo (@pk_Pl_cells v16 v1) with h3|⟨x2,h3⟩
 rotate_left
 by_cases h4:v8<0
 rotate_left
 by_cases h5:x1<0
 rotate_left
 have h6:v1.toNat*4+1+1≤v16.length*4:=by have:=(idx_some h3.1).2.1;omega
 have h7:splice (enc Pl.cells v16) (v1.toNat*4+1) [.i .u64 (U (x2.X ||| (((v13 >>> v8.toNat) &&& 1#64) <<< x1.toNat)))]=enc Pl.cells ((v16).set v1.toNat (⟨x2.N,x2.X ||| (((v13 >>> v8.toNat) &&& 1#64) <<< x1.toNat),x2.Z,x2.Ph⟩:Pl)):=enc_splice len_Pl_cells (idx_some h3.1).2.2 (show 1+1≤4 by decide) rfl
 rcases h8:(idx ((v16).set v1.toNat (⟨x2.N,x2.X ||| (((v13 >>> v8.toNat) &&& 1#64) <<< x1.toNat),x2.Z,x2.Ph⟩:Pl)) v1) with _|x3
 have h8o:inb v1 v16.length=false:=by have q:=idx_out h8;simpa only [List.length_set] using q
 first|exact absurd (show inb v1 v16.length=true by simp only [*,-ih,-h8o]) (by rw [h8o];exact Bool.false_ne_true)|rotate_left
 have h8i:inb v1 v16.length=true:=by have q:=idx_inb h8;simpa only [List.length_set] using q
 replace h8:=pk_Pl_cells h8
 have h9:v1.toNat*4+2+1≤v16.length*4:=by have:=(idx_some h8.1).2.1;(try simp only [List.length_set] at this);omega
 have h10:splice (enc Pl.cells ((v16).set v1.toNat (⟨x2.N,x2.X ||| (((v13 >>> v8.toNat) &&& 1#64) <<< x1.toNat),x2.Z,x2.Ph⟩:Pl))) (v1.toNat*4+2) [.i .u64 (U (x3.Z ||| (((v14 >>> v8.toNat) &&& 1#64) <<< x1.toNat)))]=enc Pl.cells (((v16).set v1.toNat (⟨x2.N,x2.X ||| (((v13 >>> v8.toNat) &&& 1#64) <<< x1.toNat),x2.Z,x2.Ph⟩:Pl)).set v1.toNat (⟨x3.N,x3.X,x3.Z ||| (((v14 >>> v8.toNat) &&& 1#64) <<< x1.toNat),x3.Ph⟩:Pl)):=enc_splice len_Pl_cells (idx_some h8.1).2.2 (show 2+1≤4 by decide) rfl
 all_goals simp -implicitDefEqProofs only [*,-ih,EVA.down,ne_eq,seval]
 all_goals exact ih _ _ _ (by simp only [*,-ih,EVA.down,ne_eq,seval])
theorem ltb_OrderL7 (D:Nat)(hD:0≤D)(F:Nat)(v0:List Int)(v1 v2 v3 v5 v6:Int)(v7 v9:List Pl)(K:AE→AS→Option Res):∀ (f:Nat) (v4:Int) (v8:List Pl) (s:AS),s.keepG 2 [1,4,7,9,39,40,41,45,46,47] [4,7]=some ⟨[(1,.vs v0.length .unk (enc c3 v0)),(4,.lp 4 0),(7,.lp 7 0),(9,.sl (some (2,0)) v8.length .op),(39,.sl (some (3,0)) 2 (.ex (2))),(40,.i .i64 v1),(41,.i .i64 v2),(45,.sl (some (2,0)) v8.length .op),(46,.i .i64 v3),(47,.i .i64 v4)],[(4,[.i .i64 v5,.sl none 0 (.ex 0),.sl none 0 (.ex 0)]),(7,[.i .i64 v6,.sl (some (2,0)) v8.length .op,.vs v7.length .unk (enc Pl.cells v7)])],[(2,⟨true,true,39,4,enc Pl.cells v8⟩),(3,⟨true,false,22,1,[.sl (some (2,0)) v8.length .op,.vs v9.length .unk (enc Pl.cells v9)]⟩),(0,tab64)],4⟩→
 evLoop (evC (OV F D) 2 F a69L1) f s K=match Ptb_OrderL7 F v0 v1 v2 v3 v5 v6 v7 v9 f v4 v8 with|none=>none|some (y0)=>K (.ex 2) ⟨[(1,.vs v0.length .unk (enc c3 v0)),(4,.lp 4 0),(7,.lp 7 0),(39,.sl (some (2,0)) 2 (.ex (2))),(40,.i .i64 v1),(41,.i .i64 v2)],[(4,[.i .i64 v5,.sl none 0 (.ex 0),.sl none 0 (.ex 0)]),(7,[.i .i64 v6,.sl (some (3,0)) y0.length .op,.vs v7.length .unk (enc Pl.cells v7)])],[(2,⟨true,false,22,1,[.sl (some (3,0)) y0.length .op,.vs v9.length .unk (enc Pl.cells v9)]⟩),(3,⟨true,true,39,4,enc Pl.cells y0⟩),(0,tab64)],4⟩:=by
 intro f
 induction f with
 |zero=>intro v4 v8 s hs;simp only [evLoop,Ptb_OrderL7]
 |succ f ih=>
 intro v4 v8 s hs
 obtain ⟨k0,hk,hn,he,hr⟩:=@lk_all (OV F (D)) 2 F a69L1 f K
 rw [loop_succ,hk,a69L1,runC_cutg,hs]
 clear hs
 simp only [Ptb_OrderL7]
 clear hk
 by_cases h1:v4<v3
 rcases ixo (@pk_Pl_cells v8 v4) with h2|⟨x1,h2⟩
 rotate_left
 have h3:v4.toNat*4+1+1≤v8.length*4:=by have:=(idx_some h2.1).2.1;omega
 have h4:splice (enc Pl.cells v8) (v4.toNat*4+1) [.i .u64 (U (0#64))]=enc Pl.cells ((v8).set v4.toNat (⟨x1.N,0#64,x1.Z,x1.Ph⟩:Pl)):=enc_splice len_Pl_cells (idx_some h2.1).2.2 (show 1+1≤4 by decide) rfl
 rcases h5:(idx ((v8).set v4.toNat (⟨x1.N,0#64,x1.Z,x1.Ph⟩:Pl)) v4) with _|x2
 have h5o:inb v4 v8.length=false:=by have q:=idx_out h5;simpa only [List.length_set] using q
 first|exact absurd (show inb v4 v8.length=true by simp only [*,-ih,-h5o]) (by rw [h5o];exact Bool.false_ne_true)|rotate_left
 have h5i:inb v4 v8.length=true:=by have q:=idx_inb h5;simpa only [List.length_set] using q
 replace h5:=pk_Pl_cells h5
 have h6:v4.toNat*4+2+1≤v8.length*4:=by have:=(idx_some h5.1).2.1;(try simp only [List.length_set] at this);omega
 have h7:splice (enc Pl.cells ((v8).set v4.toNat (⟨x1.N,0#64,x1.Z,x1.Ph⟩:Pl))) (v4.toNat*4+2) [.i .u64 (U (0#64))]=enc Pl.cells (((v8).set v4.toNat (⟨x1.N,0#64,x1.Z,x1.Ph⟩:Pl)).set v4.toNat (⟨x2.N,x2.X,0#64,x2.Ph⟩:Pl)):=enc_splice len_Pl_cells (idx_some h5.1).2.2 (show 2+1≤4 by decide) rfl
 simp -implicitDefEqProofs only [*,-ih,runC_loop,EVA.down,ne_eq,seval]
 rw [ltb_OrderL6 (D) (by omega) F v0 v4 v1 v2 v3 v4 v0 (v0.length:Int) v5 v6 v7 x1.N x1.X x1.Z x1.Ph v9 _ F 0 (((v8).set v4.toNat (⟨x1.N,0#64,x1.Z,x1.Ph⟩:Pl)).set v4.toNat (⟨x2.N,x2.X,0#64,x2.Ph⟩:Pl)) _ (by simp only [*,-ih,EVA.down,ne_eq,seval];try rfl)]
 rcases h8:(Ptb_OrderL6 v0 v4 v1 v2 v3 v4 v0 (v0.length:Int) v5 v6 v7 x1.N x1.X x1.Z x1.Ph v9 F 0 (((v8).set v4.toNat (⟨x1.N,0#64,x1.Z,x1.Ph⟩:Pl)).set v4.toNat (⟨x2.N,x2.X,0#64,x2.Ph⟩:Pl))) with _|y3
 rotate_left
 have h8l0:y3.length=v8.length:=by have q:=ltb_OrderL6n0_0 v0 v4 v1 v2 v3 v4 v0 (v0.length:Int) v5 v6 v7 x1.N x1.X x1.Z x1.Ph v9 F 0 (((v8).set v4.toNat (⟨x1.N,0#64,x1.Z,x1.Ph⟩:Pl)).set v4.toNat (⟨x2.N,x2.X,0#64,x2.Ph⟩:Pl)) y3 h8;simpa only [List.length_set] using q
 have h8t0:=len_facts h8l0
 all_goals simp -implicitDefEqProofs only [*,-ih,EVA.down,ne_eq,seval]
 all_goals exact ih _ _ _ (by simp only [*,-ih,EVA.down,ne_eq,seval])
theorem ltb_OrderL8 (D:Nat)(hD:0≤D)(F:Nat)(v0:List Int)(v1:List Pl)(v2 v3:Int)(v4:List Pl)(v5 v6 v7 v8:Int)(v9 v10 v11:List Pl)(K:AE→AS→Option Res):∀ (f:Nat) (s:AS),s.keepG 2 [1,4,7,9,39,40,41,45,46,47] [4,7]=some ⟨[(1,.vs v0.length .unk (enc c3 v0)),(4,.lp 4 0),(7,.lp 7 0),(9,.vs v1.length .unk (enc Pl.cells v1)),(39,.sl (some (2,0)) 2 (.ex (2))),(40,.i .i64 v2),(41,.i .i64 v3),(45,.vs v4.length .unk (enc Pl.cells v4)),(46,.i .i64 v5),(47,.i .i64 v6)],[(4,[.i .i64 v7,.sl none 0 (.ex 0),.sl none 0 (.ex 0)]),(7,[.i .i64 v8,.sl (some (3,0)) v11.length .op,.vs v9.length .unk (enc Pl.cells v9)])],[(2,⟨true,false,22,1,[.sl (some (3,0)) v11.length .op,.vs v10.length .unk (enc Pl.cells v10)]⟩),(3,⟨true,true,39,4,enc Pl.cells v11⟩),(0,tab64)],4⟩→
 evLoop (evC (OV F D) 2 F a69L1) f s K=match Ptb_OrderL8 v0 v1 v2 v3 v4 v5 v6 v7 v8 v9 v10 v11 f with|none=>none|some (_)=>K (.ex 2) ⟨[(1,.vs v0.length .unk (enc c3 v0)),(4,.lp 4 0),(7,.lp 7 0),(39,.sl (some (2,0)) 2 (.ex (2))),(40,.i .i64 v2),(41,.i .i64 v3)],[(4,[.i .i64 v7,.sl none 0 (.ex 0),.sl none 0 (.ex 0)]),(7,[.i .i64 v8,.sl (some (3,0)) v11.length .op,.vs v9.length .unk (enc Pl.cells v9)])],[(2,⟨true,false,22,1,[.sl (some (3,0)) v11.length .op,.vs v10.length .unk (enc Pl.cells v10)]⟩),(3,⟨true,true,39,4,enc Pl.cells v11⟩),(0,tab64)],4⟩:=by
 intro f
 induction f with
 |zero=>intro s hs;simp only [evLoop,Ptb_OrderL8]
 |succ f ih=>
 intro s hs
 obtain ⟨k0,hk,hn,he,hr⟩:=@lk_all (OV F (D)) 2 F a69L1 f K
 rw [loop_succ,hk,a69L1,runC_cutg,hs]
 clear hs
 simp only [Ptb_OrderL8]
 clear hk
 by_cases h1:v6<v5
 rcases ixo (@pk_Pl_cells v4 v6) with h2|⟨x1,h2⟩
 rotate_left
 rcases ixo (@pk_Pl_cells v1 v6) with h3|⟨x2,h3⟩
 all_goals simp -implicitDefEqProofs only [*,-ih,EVA.down,ne_eq,seval]
theorem ltb_OrderL9 (D:Nat)(hD:0≤D)(F:Nat)(v0:List Int)(v1 v3 v4:Int)(v5 v6:List Pl)(K:AE→AS→Option Res):∀ (f:Nat) (v2:Int) (v7:List Pl) (s:AS),s.keepG 2 [1,4,7,39,40,41] [4,7]=some ⟨[(1,.vs v0.length .unk (enc c3 v0)),(4,.lp 4 0),(7,.lp 7 0),(39,.sl (some (2,0)) 2 (.ex (2))),(40,.i .i64 v1),(41,.i .i64 v2)],[(4,[.i .i64 v3,.sl none 0 (.ex 0),.sl none 0 (.ex 0)]),(7,[.i .i64 v4,.sl (some (3,0)) v7.length .op,.vs v5.length .unk (enc Pl.cells v5)])],[(2,⟨true,false,22,1,[.sl (some (3,0)) v7.length .op,.vs v6.length .unk (enc Pl.cells v6)]⟩),(3,⟨true,true,39,4,enc Pl.cells v7⟩),(0,tab64)],4⟩→
 evLoop (evC (OV F D) 2 F a69L2) f s K=match Ptb_OrderL9 F v0 v1 v3 v4 v5 v6 f v2 v7 with|none=>none|some (y0)=>K (.ex 0) ⟨[(4,.lp 4 0),(7,.lp 7 0)],[(4,[.i .i64 v3,.sl none 0 (.ex 0),.sl none 0 (.ex 0)]),(7,[.i .i64 v4,.sl (some (2,0)) y0.length .op,.vs v5.length .unk (enc Pl.cells v5)])],[(2,⟨true,true,39,4,enc Pl.cells y0⟩),(0,tab64)],3⟩:=by
 intro f
 induction f with
 |zero=>intro v2 v7 s hs;simp only [evLoop,Ptb_OrderL9]
 |succ f ih=>
 intro v2 v7 s hs
 obtain ⟨k0,hk,hn,he,hr⟩:=@lk_all (OV F (D)) 2 F a69L2 f K
 rw [loop_succ,hk,a69L2,runC_cutg,hs]
 clear hs
 simp only [Ptb_OrderL9]
 clear hk
 by_cases h1:v2<v1
 by_cases h2:v2=0
 replace h2:=eq_true h2
 have h3:inb v2 2=true:=by rw [(of_eq_true h2)];decide
 have h4:Int.toNat v2=0:=by rw [(of_eq_true h2)];rfl
 simp -implicitDefEqProofs only [*,-ih,runC_loop,EVA.down,ne_eq,seval]
 rw [ltb_OrderL7 (D) (by omega) F v0 v1 v2 ((v7.length:Nat):Int) v3 v4 v5 v6 _ F 0 v7 _ (by simp only [*,-ih,EVA.down,ne_eq,seval];try rfl)]
 rcases h5:(Ptb_OrderL7 F v0 v1 v2 ((v7.length:Nat):Int) v3 v4 v5 v6 F 0 v7) with _|y1
 rotate_left
 rotate_left
 by_cases h6:v2=1
 replace h6:=eq_true h6
 have h7:inb v2 2=true:=by rw [(of_eq_true h6)];decide
 have h8:Int.toNat v2=1:=by rw [(of_eq_true h6)];rfl
 simp -implicitDefEqProofs only [*,-ih,runC_loop,EVA.down,ne_eq,seval]
 rw [ltb_OrderL8 (D) (by omega) F v0 v6 v1 v2 v6 (v6.length:Int) 0 v3 v4 v5 v6 v7 _ F  _ (by simp only [*,-ih,EVA.down,ne_eq,seval];try rfl)]
 rcases h9:(Ptb_OrderL8 v0 v6 v1 v2 v6 (v6.length:Int) 0 v3 v4 v5 v6 v7 F) with _|_
 rotate_left
 rotate_left
 have h10:inb v2 2=false:=by simp only [inb,Bool.and_eq_false_iff,decide_eq_false_iff_not];omega
 all_goals simp -implicitDefEqProofs only [*,-ih,EVA.down,ne_eq,seval]
 all_goals exact ih _ _ _ (by simp only [*,-ih,EVA.down,ne_eq,seval])
theorem ltb_OrderL10 (D:Nat)(hD:0≤D)(F:Nat)(v0:List Int)(v1 v2 v3 v4 v5:Int)(v6:List Int)(v7 v9 v10 v11:Int)(v12 v13:BitVec 64)(v14:Int)(v16:List Pl)(K:AE→AS→Option Res):∀ (f:Nat) (v8:Int) (v15:List Pl) (s:AS),s.keepG 2 [1,4,7,9,10,11,39,40,41,45,46,47,60,61,62] [4,7,11]=some ⟨[(1,.vs v0.length .unk (enc c3 v0)),(4,.lp 4 0),(7,.lp 7 0),(9,.sl (some (2,0)) v15.length .op),(10,.i .i64 v1),(11,.lp 11 0),(39,.sl (some (3,0)) 2 (.ex (2))),(40,.i .i64 v2),(41,.i .i64 v3),(45,.sl (some (2,0)) v15.length .op),(46,.i .i64 v4),(47,.i .i64 v5),(60,.vs v6.length .unk (enc c3 v6)),(61,.i .i64 v7),(62,.i .i64 v8)],[(4,[.i .i64 v9,.sl none 0 (.ex 0),.sl none 0 (.ex 0)]),(7,[.i .i64 v10,.sl (some (2,0)) v15.length .op,.sl (some (4,0)) v16.length .op]),(11,[.i .i64 v11,.i .u64 (U v12),.i .u64 (U v13),.i .i64 v14])],[(2,⟨true,true,39,4,enc Pl.cells v15⟩),(3,⟨true,false,22,1,[.sl (some (2,0)) v15.length .op,.sl (some (4,0)) v16.length .op]⟩),(4,⟨true,true,39,4,enc Pl.cells v16⟩),(0,tab64)],5⟩→
 evLoop (evC (OV F D) 2 F a69L0) f s K=match Ptb_OrderL10 v0 v1 v2 v3 v4 v5 v6 v7 v9 v10 v11 v12 v13 v14 v16 f v8 v15 with|none=>none|some (y0)=>K (.ex 4) ⟨[(1,.vs v0.length .unk (enc c3 v0)),(4,.lp 4 0),(7,.lp 7 0),(9,.sl (some (2,0)) y0.length .op),(39,.sl (some (3,0)) 2 (.ex (2))),(40,.i .i64 v2),(41,.i .i64 v3),(45,.sl (some (2,0)) y0.length .op),(46,.i .i64 v4),(47,.i .i64 v5)],[(4,[.i .i64 v9,.sl none 0 (.ex 0),.sl none 0 (.ex 0)]),(7,[.i .i64 v10,.sl (some (2,0)) y0.length .op,.sl (some (4,0)) v16.length .op])],[(2,⟨true,true,39,4,enc Pl.cells y0⟩),(3,⟨true,false,22,1,[.sl (some (2,0)) y0.length .op,.sl (some (4,0)) v16.length .op]⟩),(4,⟨true,true,39,4,enc Pl.cells v16⟩),(0,tab64)],5⟩:=by
 intro f
 induction f with
 |zero=>intro v8 v15 s hs;simp only [evLoop,Ptb_OrderL10]
 |succ f ih=>
 intro v8 v15 s hs
 obtain ⟨k0,hk,hn,he,hr⟩:=@lk_all (OV F (D)) 2 F a69L0 f K
 rw [loop_succ,hk,a69L0,runC_cutg,hs]
 clear hs
 simp only [Ptb_OrderL10]
 clear hk
 by_cases h1:v8<v7
 rcases ixo (@pk_c3 v6 v8) with h2|⟨x1,h2⟩
 rotate_left
 rcases ixo (@pk_Pl_cells v15 v1) with h3|⟨x2,h3⟩
 rotate_left
 by_cases h4:v8<0
 rotate_left
 by_cases h5:x1<0
 rotate_left
 have h6:v1.toNat*4+1+1≤v15.length*4:=by have:=(idx_some h3.1).2.1;omega
 have h7:splice (enc Pl.cells v15) (v1.toNat*4+1) [.i .u64 (U (x2.X ||| (((v12 >>> v8.toNat) &&& 1#64) <<< x1.toNat)))]=enc Pl.cells ((v15).set v1.toNat (⟨x2.N,x2.X ||| (((v12 >>> v8.toNat) &&& 1#64) <<< x1.toNat),x2.Z,x2.Ph⟩:Pl)):=enc_splice len_Pl_cells (idx_some h3.1).2.2 (show 1+1≤4 by decide) rfl
 rcases h8:(idx ((v15).set v1.toNat (⟨x2.N,x2.X ||| (((v12 >>> v8.toNat) &&& 1#64) <<< x1.toNat),x2.Z,x2.Ph⟩:Pl)) v1) with _|x3
 have h8o:inb v1 v15.length=false:=by have q:=idx_out h8;simpa only [List.length_set] using q
 first|exact absurd (show inb v1 v15.length=true by simp only [*,-ih,-h8o]) (by rw [h8o];exact Bool.false_ne_true)|rotate_left
 have h8i:inb v1 v15.length=true:=by have q:=idx_inb h8;simpa only [List.length_set] using q
 replace h8:=pk_Pl_cells h8
 have h9:v1.toNat*4+2+1≤v15.length*4:=by have:=(idx_some h8.1).2.1;(try simp only [List.length_set] at this);omega
 have h10:splice (enc Pl.cells ((v15).set v1.toNat (⟨x2.N,x2.X ||| (((v12 >>> v8.toNat) &&& 1#64) <<< x1.toNat),x2.Z,x2.Ph⟩:Pl))) (v1.toNat*4+2) [.i .u64 (U (x3.Z ||| (((v13 >>> v8.toNat) &&& 1#64) <<< x1.toNat)))]=enc Pl.cells (((v15).set v1.toNat (⟨x2.N,x2.X ||| (((v12 >>> v8.toNat) &&& 1#64) <<< x1.toNat),x2.Z,x2.Ph⟩:Pl)).set v1.toNat (⟨x3.N,x3.X,x3.Z ||| (((v13 >>> v8.toNat) &&& 1#64) <<< x1.toNat),x3.Ph⟩:Pl)):=enc_splice len_Pl_cells (idx_some h8.1).2.2 (show 2+1≤4 by decide) rfl
 all_goals simp -implicitDefEqProofs only [*,-ih,EVA.down,ne_eq,seval]
 all_goals exact ih _ _ _ (by simp only [*,-ih,EVA.down,ne_eq,seval])
theorem ltb_OrderL11 (D:Nat)(hD:0≤D)(F:Nat)(v0:List Int)(v1 v2 v3 v5 v6:Int)(v8:List Pl)(K:AE→AS→Option Res):∀ (f:Nat) (v4:Int) (v7:List Pl) (s:AS),s.keepG 2 [1,4,7,9,39,40,41,45,46,47] [4,7]=some ⟨[(1,.vs v0.length .unk (enc c3 v0)),(4,.lp 4 0),(7,.lp 7 0),(9,.sl (some (2,0)) v7.length .op),(39,.sl (some (3,0)) 2 (.ex (2))),(40,.i .i64 v1),(41,.i .i64 v2),(45,.sl (some (2,0)) v7.length .op),(46,.i .i64 v3),(47,.i .i64 v4)],[(4,[.i .i64 v5,.sl none 0 (.ex 0),.sl none 0 (.ex 0)]),(7,[.i .i64 v6,.sl (some (2,0)) v7.length .op,.sl (some (4,0)) v8.length .op])],[(2,⟨true,true,39,4,enc Pl.cells v7⟩),(3,⟨true,false,22,1,[.sl (some (2,0)) v7.length .op,.sl (some (4,0)) v8.length .op]⟩),(4,⟨true,true,39,4,enc Pl.cells v8⟩),(0,tab64)],5⟩→
 evLoop (evC (OV F D) 2 F a69L1) f s K=match Ptb_OrderL11 F v0 v1 v2 v3 v5 v6 v8 f v4 v7 with|none=>none|some (y0)=>K (.ex 2) ⟨[(1,.vs v0.length .unk (enc c3 v0)),(4,.lp 4 0),(7,.lp 7 0),(39,.sl (some (2,0)) 2 (.ex (2))),(40,.i .i64 v1),(41,.i .i64 v2)],[(4,[.i .i64 v5,.sl none 0 (.ex 0),.sl none 0 (.ex 0)]),(7,[.i .i64 v6,.sl (some (3,0)) y0.length .op,.sl (some (4,0)) v8.length .op])],[(2,⟨true,false,22,1,[.sl (some (3,0)) y0.length .op,.sl (some (4,0)) v8.length .op]⟩),(3,⟨true,true,39,4,enc Pl.cells y0⟩),(4,⟨true,true,39,4,enc Pl.cells v8⟩),(0,tab64)],5⟩:=by
 intro f
 induction f with
 |zero=>intro v4 v7 s hs;simp only [evLoop,Ptb_OrderL11]
 |succ f ih=>
 intro v4 v7 s hs
 obtain ⟨k0,hk,hn,he,hr⟩:=@lk_all (OV F (D)) 2 F a69L1 f K
 rw [loop_succ,hk,a69L1,runC_cutg,hs]
 clear hs
 simp only [Ptb_OrderL11]
 clear hk
 by_cases h1:v4<v3
 rcases ixo (@pk_Pl_cells v7 v4) with h2|⟨x1,h2⟩
 rotate_left
 have h3:v4.toNat*4+1+1≤v7.length*4:=by have:=(idx_some h2.1).2.1;omega
 have h4:splice (enc Pl.cells v7) (v4.toNat*4+1) [.i .u64 (U (0#64))]=enc Pl.cells ((v7).set v4.toNat (⟨x1.N,0#64,x1.Z,x1.Ph⟩:Pl)):=enc_splice len_Pl_cells (idx_some h2.1).2.2 (show 1+1≤4 by decide) rfl
 rcases h5:(idx ((v7).set v4.toNat (⟨x1.N,0#64,x1.Z,x1.Ph⟩:Pl)) v4) with _|x2
 have h5o:inb v4 v7.length=false:=by have q:=idx_out h5;simpa only [List.length_set] using q
 first|exact absurd (show inb v4 v7.length=true by simp only [*,-ih,-h5o]) (by rw [h5o];exact Bool.false_ne_true)|rotate_left
 have h5i:inb v4 v7.length=true:=by have q:=idx_inb h5;simpa only [List.length_set] using q
 replace h5:=pk_Pl_cells h5
 have h6:v4.toNat*4+2+1≤v7.length*4:=by have:=(idx_some h5.1).2.1;(try simp only [List.length_set] at this);omega
 have h7:splice (enc Pl.cells ((v7).set v4.toNat (⟨x1.N,0#64,x1.Z,x1.Ph⟩:Pl))) (v4.toNat*4+2) [.i .u64 (U (0#64))]=enc Pl.cells (((v7).set v4.toNat (⟨x1.N,0#64,x1.Z,x1.Ph⟩:Pl)).set v4.toNat (⟨x2.N,x2.X,0#64,x2.Ph⟩:Pl)):=enc_splice len_Pl_cells (idx_some h5.1).2.2 (show 2+1≤4 by decide) rfl
 simp -implicitDefEqProofs only [*,-ih,runC_loop,EVA.down,ne_eq,seval]
 rw [ltb_OrderL10 (D) (by omega) F v0 v4 v1 v2 v3 v4 v0 (v0.length:Int) v5 v6 x1.N x1.X x1.Z x1.Ph v8 _ F 0 (((v7).set v4.toNat (⟨x1.N,0#64,x1.Z,x1.Ph⟩:Pl)).set v4.toNat (⟨x2.N,x2.X,0#64,x2.Ph⟩:Pl)) _ (by simp only [*,-ih,EVA.down,ne_eq,seval];try rfl)]
 rcases h8:(Ptb_OrderL10 v0 v4 v1 v2 v3 v4 v0 (v0.length:Int) v5 v6 x1.N x1.X x1.Z x1.Ph v8 F 0 (((v7).set v4.toNat (⟨x1.N,0#64,x1.Z,x1.Ph⟩:Pl)).set v4.toNat (⟨x2.N,x2.X,0#64,x2.Ph⟩:Pl))) with _|y3
 rotate_left
 have h8l0:y3.length=v7.length:=by have q:=ltb_OrderL10n0_0 v0 v4 v1 v2 v3 v4 v0 (v0.length:Int) v5 v6 x1.N x1.X x1.Z x1.Ph v8 F 0 (((v7).set v4.toNat (⟨x1.N,0#64,x1.Z,x1.Ph⟩:Pl)).set v4.toNat (⟨x2.N,x2.X,0#64,x2.Ph⟩:Pl)) y3 h8;simpa only [List.length_set] using q
 have h8t0:=len_facts h8l0
 all_goals simp -implicitDefEqProofs only [*,-ih,EVA.down,ne_eq,seval]
 all_goals exact ih _ _ _ (by simp only [*,-ih,EVA.down,ne_eq,seval])
theorem ltb_OrderL12 (D:Nat)(hD:0≤D)(F:Nat)(v0:List Int)(v1 v2 v3 v4 v5:Int)(v6:List Int)(v7 v9 v10 v11:Int)(v12 v13:BitVec 64)(v14:Int)(v16:List Pl)(K:AE→AS→Option Res):∀ (f:Nat) (v8:Int) (v15:List Pl) (s:AS),s.keepG 2 [1,4,7,9,10,11,39,40,41,45,46,47,60,61,62] [4,7,11]=some ⟨[(1,.vs v0.length .unk (enc c3 v0)),(4,.lp 4 0),(7,.lp 7 0),(9,.sl (some (2,0)) v15.length .op),(10,.i .i64 v1),(11,.lp 11 0),(39,.sl (some (3,0)) 2 (.ex (2))),(40,.i .i64 v2),(41,.i .i64 v3),(45,.sl (some (2,0)) v15.length .op),(46,.i .i64 v4),(47,.i .i64 v5),(60,.vs v6.length .unk (enc c3 v6)),(61,.i .i64 v7),(62,.i .i64 v8)],[(4,[.i .i64 v9,.sl none 0 (.ex 0),.sl none 0 (.ex 0)]),(7,[.i .i64 v10,.sl (some (4,0)) v16.length .op,.sl (some (2,0)) v15.length .op]),(11,[.i .i64 v11,.i .u64 (U v12),.i .u64 (U v13),.i .i64 v14])],[(2,⟨true,true,39,4,enc Pl.cells v15⟩),(3,⟨true,false,22,1,[.sl (some (4,0)) v16.length .op,.sl (some (2,0)) v15.length .op]⟩),(4,⟨true,true,39,4,enc Pl.cells v16⟩),(0,tab64)],5⟩→
 evLoop (evC (OV F D) 2 F a69L0) f s K=match Ptb_OrderL12 v0 v1 v2 v3 v4 v5 v6 v7 v9 v10 v11 v12 v13 v14 v16 f v8 v15 with|none=>none|some (y0)=>K (.ex 4) ⟨[(1,.vs v0.length .unk (enc c3 v0)),(4,.lp 4 0),(7,.lp 7 0),(9,.sl (some (2,0)) y0.length .op),(39,.sl (some (3,0)) 2 (.ex (2))),(40,.i .i64 v2),(41,.i .i64 v3),(45,.sl (some (2,0)) y0.length .op),(46,.i .i64 v4),(47,.i .i64 v5)],[(4,[.i .i64 v9,.sl none 0 (.ex 0),.sl none 0 (.ex 0)]),(7,[.i .i64 v10,.sl (some (4,0)) v16.length .op,.sl (some (2,0)) y0.length .op])],[(2,⟨true,true,39,4,enc Pl.cells y0⟩),(3,⟨true,false,22,1,[.sl (some (4,0)) v16.length .op,.sl (some (2,0)) y0.length .op]⟩),(4,⟨true,true,39,4,enc Pl.cells v16⟩),(0,tab64)],5⟩:=by
 intro f
 induction f with
 |zero=>intro v8 v15 s hs;simp only [evLoop,Ptb_OrderL12]
 |succ f ih=>
 intro v8 v15 s hs
 obtain ⟨k0,hk,hn,he,hr⟩:=@lk_all (OV F (D)) 2 F a69L0 f K
 rw [loop_succ,hk,a69L0,runC_cutg,hs]
 clear hs
 simp only [Ptb_OrderL12]
 clear hk
 by_cases h1:v8<v7
 rcases ixo (@pk_c3 v6 v8) with h2|⟨x1,h2⟩
 rotate_left
 rcases ixo (@pk_Pl_cells v15 v1) with h3|⟨x2,h3⟩
 rotate_left
 by_cases h4:v8<0
 rotate_left
 by_cases h5:x1<0
 rotate_left
 have h6:v1.toNat*4+1+1≤v15.length*4:=by have:=(idx_some h3.1).2.1;omega
 have h7:splice (enc Pl.cells v15) (v1.toNat*4+1) [.i .u64 (U (x2.X ||| (((v12 >>> v8.toNat) &&& 1#64) <<< x1.toNat)))]=enc Pl.cells ((v15).set v1.toNat (⟨x2.N,x2.X ||| (((v12 >>> v8.toNat) &&& 1#64) <<< x1.toNat),x2.Z,x2.Ph⟩:Pl)):=enc_splice len_Pl_cells (idx_some h3.1).2.2 (show 1+1≤4 by decide) rfl
 rcases h8:(idx ((v15).set v1.toNat (⟨x2.N,x2.X ||| (((v12 >>> v8.toNat) &&& 1#64) <<< x1.toNat),x2.Z,x2.Ph⟩:Pl)) v1) with _|x3
 have h8o:inb v1 v15.length=false:=by have q:=idx_out h8;simpa only [List.length_set] using q
 first|exact absurd (show inb v1 v15.length=true by simp only [*,-ih,-h8o]) (by rw [h8o];exact Bool.false_ne_true)|rotate_left
 have h8i:inb v1 v15.length=true:=by have q:=idx_inb h8;simpa only [List.length_set] using q
 replace h8:=pk_Pl_cells h8
 have h9:v1.toNat*4+2+1≤v15.length*4:=by have:=(idx_some h8.1).2.1;(try simp only [List.length_set] at this);omega
 have h10:splice (enc Pl.cells ((v15).set v1.toNat (⟨x2.N,x2.X ||| (((v12 >>> v8.toNat) &&& 1#64) <<< x1.toNat),x2.Z,x2.Ph⟩:Pl))) (v1.toNat*4+2) [.i .u64 (U (x3.Z ||| (((v13 >>> v8.toNat) &&& 1#64) <<< x1.toNat)))]=enc Pl.cells (((v15).set v1.toNat (⟨x2.N,x2.X ||| (((v12 >>> v8.toNat) &&& 1#64) <<< x1.toNat),x2.Z,x2.Ph⟩:Pl)).set v1.toNat (⟨x3.N,x3.X,x3.Z ||| (((v13 >>> v8.toNat) &&& 1#64) <<< x1.toNat),x3.Ph⟩:Pl)):=enc_splice len_Pl_cells (idx_some h8.1).2.2 (show 2+1≤4 by decide) rfl
 all_goals simp -implicitDefEqProofs only [*,-ih,EVA.down,ne_eq,seval]
 all_goals exact ih _ _ _ (by simp only [*,-ih,EVA.down,ne_eq,seval])
end Go.Proofs.YtogkkamlmklpkaaDoor.Ab
