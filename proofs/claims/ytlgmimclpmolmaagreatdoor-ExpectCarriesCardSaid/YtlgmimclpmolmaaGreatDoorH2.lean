/- Functions of the program as plain functions, and that the abstract machine's evaluation comes to them. Written by G.py. No condition. -/
import Derived.Test.YtlgmimclpmolmaaGreatDoorH1
set_option maxRecDepth 100000
set_option maxHeartbeats 4000000
set_option linter.unusedVariables false
set_option linter.unusedSimpArgs false
namespace Go.Proofs.YtlgmimclpmolmaaGreatDoor.Ab
open Go
theorem ltableau_CheckL3 (D:Nat)(hD:2≤D)(F:Nat)(v0 v2:Int)(v3 v4:List Pl)(K:AE→AS→Option Res):∀ (f:Nat) (v1:Int) (s:AS),s.keepG 3 [1,66,67] [1]=some ⟨[(1,.lp 1 0),(66,.i .i64 v0),(67,.i .i64 v1)],[(1,[.i .i64 v2,.vs v3.length .unk (enc Pl.cells v3),.vs v4.length .unk (enc Pl.cells v4)])],[(1,tab64)],3⟩→
 evLoop (evC (OV F D) 3 F a42L3) f s K=match Ptableau_CheckL3 F v0 v2 v3 v4 f v1 with|none=>none|some (.inl _)=>K .ret ⟨[(2,.i .i64 (140))],[],[(1,tab64)],3⟩|some (.inr _)=>K (.ex 4) ⟨[],[],[(1,tab64)],3⟩:=by
 obtain ⟨D,rfl⟩:=dex hD
 intro f
 induction f with
 |zero=>intro v1 s hs;simp only [evLoop,Ptableau_CheckL3]
 |succ f ih=>
 intro v1 s hs
 obtain ⟨k0,hk,hn,he,hr⟩:=@lk_all (OV F (D+2)) 3 F a42L3 f K
 rw [loop_succ,hk,a42L3,runC_cutg,hs]
 clear hs
 simp only [Ptableau_CheckL3]
 clear hk
 by_cases h1:v1<v0
 simp -implicitDefEqProofs only [*,-ih,runC_loop,EVA.down,ne_eq,seval]
 rw [ltableau_CheckL2 (D+2) (by omega) F v1 v0 v1 v2 v2 v3 v4 _ F 0 _ (by simp only [*,-ih,EVA.down,ne_eq,seval];try rfl)]
 rcases h2:(Ptableau_CheckL2 v1 v0 v1 v2 v2 v3 v4 F 0) with _|(_|_)
 all_goals simp -implicitDefEqProofs only [*,-ih,EVA.down,ne_eq,seval]
 all_goals exact ih _ _ (by simp only [*,-ih,EVA.down,ne_eq,seval])
theorem etableau_Check (D:Nat)(hD:3≤D)(F:Nat)(a0_N:Int)(a0_Stab a0_Destab:List Pl)(q:Bool):evW 3 (OV F D) F a42 (some [.agg [.i .i64 a0_N,.vs a0_Stab.length .unk (enc Pl.cells a0_Stab),.vs a0_Destab.length .unk (enc Pl.cells a0_Destab)]]) q G0 =
 match Ptableau_Check F a0_N a0_Stab a0_Destab with|none=>none|some r0=>some (.i .i64 r0,none):=by
 obtain ⟨D,rfl⟩:=dex hD
 rw [evW_some,G0]
 simp only [Ptableau_Check]
 by_cases h1:a0_N<0
 rotate_left
 by_cases h2:a0_N>64
 rotate_left
 by_cases h3:(a0_Stab.length:Int)=a0_N
 replace h3:=eq_true h3
 by_cases h4:(a0_Destab.length:Int)=a0_N
 replace h4:=eq_true h4
 simp -implicitDefEqProofs only [*,a42,runC_loop,EVA.down,ne_eq,seval]
 rw [ltableau_CheckL1 (D+3) (by omega) F a0_N a0_N a0_Stab a0_Destab _ F 0 _ (by simp only [*,a42,EVA.down,ne_eq,seval];try rfl)]
 rcases h5:(Ptableau_CheckL1 F a0_N a0_N a0_Stab a0_Destab F 0) with _|(_|_)
 rotate_left
 rotate_left
 simp -implicitDefEqProofs only [*,a42,runC_loop,EVA.down,ne_eq,seval]
 rw [ltableau_CheckL3 (D+3) (by omega) F a0_N a0_N a0_Stab a0_Destab _ F 0 _ (by simp only [*,a42,EVA.down,ne_eq,seval];try rfl)]
 rcases h6:(Ptableau_CheckL3 F a0_N a0_N a0_Stab a0_Destab F 0) with _|(_|_)
 all_goals simp -implicitDefEqProofs only [*,a42,EVA.down,ne_eq,seval]
theorem vtableau_Check {D F n:Nat}{args:List AV}{h:AHeap}:OV F (D+1) 42 args h n (n+1)=evW 3 (OV F D) F a42 (frzs (frz true 0 (bif AV.nors args then [] else h) 8) args) (AV.nors args) (hglb h 3):=evV_frozen rfl
theorem epauli_pair (D:Nat)(hD:2≤D)(F:Nat)(a0_N:Int)(a0_X a0_Z:BitVec 64)(a0_Phase a1_N:Int)(a1_X a1_Z:BitVec 64)(a1_Phase:Int)(q:Bool):evW 3 (OV F D) F a114 (some [.agg [.i .i64 a0_N,.i .u64 (U a0_X),.i .u64 (U a0_Z),.i .i64 a0_Phase],.agg [.i .i64 a1_N,.i .u64 (U a1_X),.i .u64 (U a1_Z),.i .i64 a1_Phase]]) q G0 =
 some (.b ((Ppauli_pair a0_N a0_X a0_Z a0_Phase a1_N a1_X a1_Z a1_Phase)),none):=by
 obtain ⟨D,rfl⟩:=dex hD
 have cpauli_right0:=epauli_right (D+1) (by omega) F
 rw [evW_some,G0]
 simp only [Ppauli_pair]
 rcases h1:((Ppauli_right a0_N a0_X a0_Z a0_Phase)) with _|_
 rotate_left
 rcases h2:((Ppauli_right a1_N a1_X a1_Z a1_Phase)) with _|_
 all_goals simp -implicitDefEqProofs only [*,a114,vpauli_right,EVA.down,ne_eq,seval]
theorem vpauli_pair {D F n:Nat}{args:List AV}{h:AHeap}:OV F (D+1) 114 args h n (n+1)=evW 3 (OV F D) F a114 (frzs (frz true 0 (bif AV.nors args then [] else h) 8) args) (AV.nors args) (hglb h 3):=evV_frozen rfl
theorem epauli_Mul (D:Nat)(hD:3≤D)(F:Nat)(a0_N:Int)(a0_X a0_Z:BitVec 64)(a0_Phase a1_N:Int)(a1_X a1_Z:BitVec 64)(a1_Phase:Int)(q:Bool):evW 3 (OV F D) F a99 (some [.agg [.i .i64 a0_N,.i .u64 (U a0_X),.i .u64 (U a0_Z),.i .i64 a0_Phase],.agg [.i .i64 a1_N,.i .u64 (U a1_X),.i .u64 (U a1_Z),.i .i64 a1_Phase]]) q G0 =
 match Ppauli_Mul F a0_N a0_X a0_Z a0_Phase a1_N a1_X a1_Z a1_Phase with|none=>none|some (r0,r1,r2,r3,r4)=>some (.tup [.agg [.i .i64 r0,.i .u64 (U r1),.i .u64 (U r2),.i .i64 r3],.i .i64 r4],none):=by
 obtain ⟨D,rfl⟩:=dex hD
 have cpauli_times0:=epauli_times (D+2) (by omega) F
 have cpauli_pair0:=epauli_pair (D+2) (by omega) F
 rw [evW_some,G0]
 simp only [Ppauli_Mul]
 rcases h1:((Ppauli_pair a0_N a0_X a0_Z a0_Phase a1_N a1_X a1_Z a1_Phase)) with _|_
 rotate_left
 rcases h2:(Ppauli_times F a0_N a0_X a0_Z a0_Phase a1_N a1_X a1_Z a1_Phase) with _|⟨r1,r2,r3,r4⟩
 all_goals simp -implicitDefEqProofs only [*,a99,vpauli_times,vpauli_pair,EVA.down,ne_eq,seval]
theorem vpauli_Mul {D F n:Nat}{args:List AV}{h:AHeap}:OV F (D+1) 99 args h n (n+1)=evW 3 (OV F D) F a99 (frzs (frz true 0 (bif AV.nors args then [] else h) 8) args) (AV.nors args) (hglb h 3):=evV_frozen rfl
theorem etableau_mul (D:Nat)(hD:4≤D)(F:Nat)(a0_N:Int)(a0_X a0_Z:BitVec 64)(a0_Phase a1_N:Int)(a1_X a1_Z:BitVec 64)(a1_Phase:Int)(q:Bool):evW 3 (OV F D) F a78 (some [.agg [.i .i64 a0_N,.i .u64 (U a0_X),.i .u64 (U a0_Z),.i .i64 a0_Phase],.agg [.i .i64 a1_N,.i .u64 (U a1_X),.i .u64 (U a1_Z),.i .i64 a1_Phase]]) q G0 =
 match Ptableau_mul F a0_N a0_X a0_Z a0_Phase a1_N a1_X a1_Z a1_Phase with|none=>none|some (r0,r1,r2,r3)=>some (.agg [.i .i64 r0,.i .u64 (U r1),.i .u64 (U r2),.i .i64 r3],none):=by
 obtain ⟨D,rfl⟩:=dex hD
 have cpauli_Mul0:=epauli_Mul (D+3) (by omega) F
 rw [evW_some,G0]
 simp only [Ptableau_mul]
 rcases h1:(Ppauli_Mul F a0_N a0_X a0_Z a0_Phase a1_N a1_X a1_Z a1_Phase) with _|⟨r1,r2,r3,r4,r5⟩
 all_goals simp -implicitDefEqProofs only [*,a78,vpauli_Mul,EVA.down,ne_eq,seval]
theorem vtableau_mul {D F n:Nat}{args:List AV}{h:AHeap}:OV F (D+1) 78 args h n (n+1)=evW 3 (OV F D) F a78 (frzs (frz true 0 (bif AV.nors args then [] else h) 8) args) (AV.nors args) (hglb h 3):=evV_frozen rfl
theorem ltableau_sureL0 (D:Nat)(hD:5≤D)(F:Nat)(v0:List Pl)(v1 v3:Int)(v4 v5:List Pl)(v6:Int)(v7 v8:BitVec 64)(v9 v10:Int)(v11 v12:BitVec 64)(v13:Int)(K:AE→AS→Option Res):∀ (f:Nat) (v2 v14:Int) (v15 v16:BitVec 64) (v17:Int) (s:AS),s.keep [2,3,4,5,12,13,14] [2,3,4,5]=some ⟨[(2,.lp 2 0),(3,.lp 3 0),(4,.lp 4 0),(5,.lp 5 0),(12,.vs v0.length .unk (enc Pl.cells v0)),(13,.i .i64 v1),(14,.i .i64 v2)],[(2,[.i .i64 v3,.vs v4.length .unk (enc Pl.cells v4),.vs v5.length .unk (enc Pl.cells v5)]),(3,[.i .i64 v6,.i .u64 (U v7),.i .u64 (U v8),.i .i64 v9]),(4,[.i .i64 v10,.i .u64 (U v11),.i .u64 (U v12),.i .i64 v13]),(5,[.i .i64 v14,.i .u64 (U v15),.i .u64 (U v16),.i .i64 v17])],[(1,tab64)],3⟩→
 evLoop (evC (OV F D) 3 F a44L0) f s K=match Ptableau_sureL0 F v0 v1 v3 v4 v5 v6 v7 v8 v9 v10 v11 v12 v13 f v2 v14 v15 v16 v17 with|none=>none|some (y0,y1,y2,y3)=>K (.ex 0) ⟨[(4,.lp 4 0),(5,.lp 5 0)],[(4,[.i .i64 v10,.i .u64 (U v11),.i .u64 (U v12),.i .i64 v13]),(5,[.i .i64 y0,.i .u64 (U y1),.i .u64 (U y2),.i .i64 y3])],[(1,tab64)],3⟩:=by
 obtain ⟨D,rfl⟩:=dex hD
 have ctableau_commute0:=etableau_commute (D+4) (by omega) F
 have ctableau_mul0:=etableau_mul (D+4) (by omega) F
 intro f
 induction f with
 |zero=>intro v2 v14 v15 v16 v17 s hs;simp only [evLoop,Ptableau_sureL0]
 |succ f ih=>
 intro v2 v14 v15 v16 v17 s hs
 obtain ⟨k0,hk,hn,he,hr⟩:=@lk_all (OV F (D+5)) 3 F a44L0 f K
 rw [loop_succ,hk,a44L0,runC_cut,hs]
 clear hs
 simp only [Ptableau_sureL0]
 clear hk
 by_cases h1:v2<v1
 rcases ixo (@pk_Pl_cells v0 v2) with h2|⟨x1,h2⟩
 rotate_left
 rcases h3:((Ptableau_commute x1.N x1.X x1.Z x1.Ph v6 v7 v8 v9)) with _|_
 rcases ixo (@pk_Pl_cells v4 v2) with h4|⟨x2,h4⟩
 rotate_left
 rcases h5:(Ptableau_mul F v14 v15 v16 v17 x2.N x2.X x2.Z x2.Ph) with _|⟨r3,r4,r5,r6⟩
 all_goals simp -implicitDefEqProofs only [*,-ih,vtableau_commute,vtableau_mul,EVA.down,ne_eq,seval]
 all_goals exact ih _ _ _ _ _ _ (by simp only [*,-ih,vtableau_commute,vtableau_mul,EVA.down,ne_eq,seval])
theorem etableau_sure (D:Nat)(hD:5≤D)(F:Nat)(a0_N:Int)(a0_Stab a0_Destab:List Pl)(a1_N:Int)(a1_X a1_Z:BitVec 64)(a1_Phase:Int)(q:Bool):evW 3 (OV F D) F a44 (some [.agg [.i .i64 a0_N,.vs a0_Stab.length .unk (enc Pl.cells a0_Stab),.vs a0_Destab.length .unk (enc Pl.cells a0_Destab)],.agg [.i .i64 a1_N,.i .u64 (U a1_X),.i .u64 (U a1_Z),.i .i64 a1_Phase]]) q G0 =
 match Ptableau_sure F a0_N a0_Stab a0_Destab a1_N a1_X a1_Z a1_Phase with|none=>none|some (r0,r1,r2,r3)=>some (.agg [.i .i64 r0,.i .u64 (U r1),.i .u64 (U r2),.i .i64 r3],none):=by
 obtain ⟨D,rfl⟩:=dex hD
 rw [evW_some,G0]
 simp only [Ptableau_sure]
 simp -implicitDefEqProofs only [*,a44,runC_loop,EVA.down,ne_eq,seval]
 rw [ltableau_sureL0 (D+5) (by omega) F a0_Destab (a0_Destab.length:Int) a0_N a0_Stab a0_Destab a1_N a1_X a1_Z a1_Phase 0 0#64 0#64 0 _ F 0 a0_N 0#64 0#64 0 _ (by simp only [*,a44,EVA.down,ne_eq,seval];try rfl)]
 rcases h1:(Ptableau_sureL0 F a0_Destab (a0_Destab.length:Int) a0_N a0_Stab a0_Destab a1_N a1_X a1_Z a1_Phase 0 0#64 0#64 0 F 0 a0_N 0#64 0#64 0) with _|⟨y1,y2,y3,y4⟩
 all_goals simp -implicitDefEqProofs only [*,a44,EVA.down,ne_eq,seval]
theorem vtableau_sure {D F n:Nat}{args:List AV}{h:AHeap}:OV F (D+1) 44 args h n (n+1)=evW 3 (OV F D) F a44 (frzs (frz true 0 (bif AV.nors args then [] else h) 8) args) (AV.nors args) (hglb h 3):=evV_frozen rfl
theorem etableau_Member (D:Nat)(hD:6≤D)(F:Nat)(a0_N:Int)(a0_Stab a0_Destab:List Pl)(a1_N:Int)(a1_X a1_Z:BitVec 64)(a1_Phase:Int)(q:Bool):evW 3 (OV F D) F a16 (some [.agg [.i .i64 a0_N,.vs a0_Stab.length .unk (enc Pl.cells a0_Stab),.vs a0_Destab.length .unk (enc Pl.cells a0_Destab)],.agg [.i .i64 a1_N,.i .u64 (U a1_X),.i .u64 (U a1_Z),.i .i64 a1_Phase]]) q G0 =
 match Ptableau_Member F a0_N a0_Stab a0_Destab a1_N a1_X a1_Z a1_Phase with|none=>none|some (r0,r1)=>some (.tup [.i .i64 r0,.i .i64 r1],none):=by
 obtain ⟨D,rfl⟩:=dex hD
 have ctableau_Check0:=etableau_Check (D+5) (by omega) F
 have cpauli_Hermitian0:=epauli_Hermitian (D+5) (by omega) F
 have ctableau_sure0:=etableau_sure (D+5) (by omega) F
 rw [evW_some,G0]
 simp only [Ptableau_Member]
 rcases h1:(Ptableau_Check F a0_N a0_Stab a0_Destab) with _|r1
 rotate_left
 by_cases h2:r1=0
 replace h2:=eq_true h2
 by_cases h3:a1_N=a0_N
 replace h3:=eq_true h3
 rcases h4:((Ppauli_Hermitian a1_N a1_X a1_Z a1_Phase)) with _|_
 rotate_left
 rcases h5:(Ptableau_sure F a0_N a0_Stab a0_Destab a1_N a1_X a1_Z a1_Phase) with _|⟨r2,r3,r4,r5⟩
 rotate_left
 by_cases h6:r3=a1_X
 replace h6:=eq_true h6
 by_cases h7:r4=a1_Z
 replace h7:=eq_true h7
 by_cases h8:r5=a1_Phase
 replace h8:=eq_true h8
 all_goals simp -implicitDefEqProofs only [*,a16,vtableau_Check,vpauli_Hermitian,vtableau_sure,EVA.down,ne_eq,seval]
theorem vtableau_Member {D F n:Nat}{args:List AV}{h:AHeap}:OV F (D+1) 16 args h n (n+1)=evW 3 (OV F D) F a16 (frzs (frz true 0 (bif AV.nors args then [] else h) 8) args) (AV.nors args) (hglb h 3):=evV_frozen rfl
theorem eexpect_Tableau (D:Nat)(hD:7≤D)(F:Nat)(a0_N:Int)(a0_Stab a0_Destab:List Pl)(a1_N:Int)(a1_X a1_Z:BitVec 64)(a1_Phase:Int)(q:Bool):evW 3 (OV F D) F a8 (some [.agg [.i .i64 a0_N,.vs a0_Stab.length .unk (enc Pl.cells a0_Stab),.vs a0_Destab.length .unk (enc Pl.cells a0_Destab)],.agg [.i .i64 a1_N,.i .u64 (U a1_X),.i .u64 (U a1_Z),.i .i64 a1_Phase]]) q G0 =
 match Pexpect_Tableau F a0_N a0_Stab a0_Destab a1_N a1_X a1_Z a1_Phase with|none=>none|some (r0,r1)=>some (.tup [.i .i64 r0,.i .i64 r1],none):=by
 obtain ⟨D,rfl⟩:=dex hD
 have ctableau_Member0:=etableau_Member (D+6) (by omega) F
 rw [evW_some,G0]
 simp only [Pexpect_Tableau]
 rcases h1:(Ptableau_Member F a0_N a0_Stab a0_Destab a1_N a1_X a1_Z a1_Phase) with _|⟨r1,r2⟩
 all_goals simp -implicitDefEqProofs only [*,a8,vtableau_Member,EVA.down,ne_eq,seval]
theorem vexpect_Tableau {D F n:Nat}{args:List AV}{h:AHeap}:OV F (D+1) 8 args h n (n+1)=evW 3 (OV F D) F a8 (frzs (frz true 0 (bif AV.nors args then [] else h) 8) args) (AV.nors args) (hglb h 3):=evV_frozen rfl
theorem lref14_RightL0 (D:Nat)(hD:2≤D)(F:Nat)(v0 v1 v3:Int)(v4 v5:List Pl)(K:AE→AS→Option Res):∀ (f:Nat) (v2:Int) (s:AS),s.keep [1,3,4,5] [1]=some ⟨[(1,.lp 1 0),(3,.i .i64 v0),(4,.i .i64 v1),(5,.i .i64 v2)],[(1,[.i .i64 v3,.vs v4.length .unk (enc Pl.cells v4),.vs v5.length .unk (enc Pl.cells v5)])],[(1,tab64)],3⟩→
 evLoop (evC (OV F D) 3 F a17L0) f s K=match Pref14_RightL0 F v0 v1 v3 v4 v5 f v2 with|none=>none|some (.inl _)=>K .ret ⟨[(2,.b false)],[],[(1,tab64)],3⟩|some (.inr _)=>K (.ex 2) ⟨[(1,.lp 1 0),(3,.i .i64 v0),(4,.i .i64 v1)],[(1,[.i .i64 v3,.vs v4.length .unk (enc Pl.cells v4),.vs v5.length .unk (enc Pl.cells v5)])],[(1,tab64)],3⟩:=by
 obtain ⟨D,rfl⟩:=dex hD
 have cref13_Right0:=eref13_Right (D+1) (by omega) F
 intro f
 induction f with
 |zero=>intro v2 s hs;simp only [evLoop,Pref14_RightL0]
 |succ f ih=>
 intro v2 s hs
 obtain ⟨k0,hk,hn,he,hr⟩:=@lk_all (OV F (D+2)) 3 F a17L0 f K
 rw [loop_succ,hk,a17L0,runC_cut,hs]
 clear hs
 simp only [Pref14_RightL0]
 clear hk
 by_cases h1:v2<2
 rcases ixo (@pk_Pl_cells v4 v1) with h2|⟨x1,h2⟩
 rotate_left
 by_cases h3:v2=1
 replace h3:=eq_true h3
 rcases ixo (@pk_Pl_cells v5 v1) with h4|⟨x2,h4⟩
 rotate_left
 rcases h5:(Pref13_Right F x2.N x2.X x2.Z x2.Ph) with _|r3
 rotate_left
 rcases h6:(r3) with _|_
 rotate_left
 by_cases h7:x2.N=v0
 replace h7:=eq_true h7
 by_cases h8:(x2.Ph.tmod 2)=1
 replace h8:=eq_true h8
 rotate_left
 rotate_left
 rotate_left
 rcases h9:(Pref13_Right F x1.N x1.X x1.Z x1.Ph) with _|r4
 rotate_left
 rcases h10:(r4) with _|_
 rotate_left
 by_cases h11:x1.N=v0
 replace h11:=eq_true h11
 by_cases h12:(x1.Ph.tmod 2)=1
 replace h12:=eq_true h12
 all_goals simp -implicitDefEqProofs only [*,-ih,vref13_Right,EVA.down,ne_eq,seval]
 all_goals exact ih _ _ (by simp only [*,-ih,vref13_Right,EVA.down,ne_eq,seval])
theorem lref14_RightL1 (D:Nat)(hD:2≤D)(F:Nat)(v0 v2:Int)(v3 v4:List Pl)(K:AE→AS→Option Res):∀ (f:Nat) (v1:Int) (s:AS),s.keep [1,3,4] [1]=some ⟨[(1,.lp 1 0),(3,.i .i64 v0),(4,.i .i64 v1)],[(1,[.i .i64 v2,.vs v3.length .unk (enc Pl.cells v3),.vs v4.length .unk (enc Pl.cells v4)])],[(1,tab64)],3⟩→
 evLoop (evC (OV F D) 3 F a17L1) f s K=match Pref14_RightL1 F v0 v2 v3 v4 f v1 with|none=>none|some (.inl _)=>K .ret ⟨[(2,.b false)],[],[(1,tab64)],3⟩|some (.inr _)=>K (.ex 0) ⟨[(1,.lp 1 0),(3,.i .i64 v0)],[(1,[.i .i64 v2,.vs v3.length .unk (enc Pl.cells v3),.vs v4.length .unk (enc Pl.cells v4)])],[(1,tab64)],3⟩:=by
 obtain ⟨D,rfl⟩:=dex hD
 intro f
 induction f with
 |zero=>intro v1 s hs;simp only [evLoop,Pref14_RightL1]
 |succ f ih=>
 intro v1 s hs
 obtain ⟨k0,hk,hn,he,hr⟩:=@lk_all (OV F (D+2)) 3 F a17L1 f K
 rw [loop_succ,hk,a17L1,runC_cut,hs]
 clear hs
 simp only [Pref14_RightL1]
 clear hk
 by_cases h1:v1<v0
 simp -implicitDefEqProofs only [*,-ih,runC_loop,EVA.down,ne_eq,seval]
 rw [lref14_RightL0 (D+2) (by omega) F v0 v1 v2 v3 v4 _ F 0 _ (by simp only [*,-ih,EVA.down,ne_eq,seval];try rfl)]
 rcases h2:(Pref14_RightL0 F v0 v1 v2 v3 v4 F 0) with _|(_|_)
 all_goals simp -implicitDefEqProofs only [*,-ih,EVA.down,ne_eq,seval]
 all_goals exact ih _ _ (by simp only [*,-ih,EVA.down,ne_eq,seval])
theorem lref14_commuteL0 (D:Nat)(hD:0≤D)(F:Nat)(K:AE→AS→Option Res):∀ (f:Nat) (v0:Int) (v1:BitVec 64) (s:AS),s.keep [5,6] []=some ⟨[(5,.i .i64 v0),(6,.i .u64 (U v1))],[],[(1,tab64)],3⟩→
 evLoop (evC (OV F D) 3 F a45L0) f s K=match Pref14_commuteL0 f v0 v1 with|none=>none|some (y0)=>K (.ex 0) ⟨[(5,.i .i64 y0)],[],[(1,tab64)],3⟩:=by
 intro f
 induction f with
 |zero=>intro v0 v1 s hs;simp only [evLoop,Pref14_commuteL0]
 |succ f ih=>
 intro v0 v1 s hs
 obtain ⟨k0,hk,hn,he,hr⟩:=@lk_all (OV F (D)) 3 F a45L0 f K
 rw [loop_succ,hk,a45L0,runC_cut,hs]
 clear hs
 simp only [Pref14_commuteL0]
 clear hk
 by_cases h1:v1=0#64
 replace h1:=eq_true h1
 all_goals simp -implicitDefEqProofs only [*,-ih,EVA.down,ne_eq,seval]
 all_goals exact ih _ _ _ (by simp only [*,-ih,EVA.down,ne_eq,seval])
theorem eref14_commute (D:Nat)(hD:0≤D)(F:Nat)(a0_N:Int)(a0_X a0_Z:BitVec 64)(a0_Phase a1_N:Int)(a1_X a1_Z:BitVec 64)(a1_Phase:Int)(q:Bool):evW 3 (OV F D) F a45 (some [.agg [.i .i64 a0_N,.i .u64 (U a0_X),.i .u64 (U a0_Z),.i .i64 a0_Phase],.agg [.i .i64 a1_N,.i .u64 (U a1_X),.i .u64 (U a1_Z),.i .i64 a1_Phase]]) q G0 =
 match Pref14_commute F a0_N a0_X a0_Z a0_Phase a1_N a1_X a1_Z a1_Phase with|none=>none|some r0=>some (.b r0,none):=by
 rw [evW_some,G0]
 simp only [Pref14_commute]
 simp -implicitDefEqProofs only [*,a45,runC_loop,EVA.down,ne_eq,seval]
 rw [lref14_commuteL0 (D) (by omega) F  _ F 0 ((a0_X &&& a1_Z) ^^^ (a0_Z &&& a1_X)) _ (by simp only [*,a45,EVA.down,ne_eq,seval];try rfl)]
 rcases h1:(Pref14_commuteL0 F 0 ((a0_X &&& a1_Z) ^^^ (a0_Z &&& a1_X))) with _|y1
 all_goals simp -implicitDefEqProofs only [*,a45,EVA.down,ne_eq,seval]
theorem vref14_commute {D F n:Nat}{args:List AV}{h:AHeap}:OV F (D+1) 45 args h n (n+1)=evW 3 (OV F D) F a45 (frzs (frz true 0 (bif AV.nors args then [] else h) 8) args) (AV.nors args) (hglb h 3):=evV_frozen rfl
theorem lref14_RightL2 (D:Nat)(hD:1≤D)(F:Nat)(v0 v1 v3:Int)(v4 v5:List Pl)(K:AE→AS→Option Res):∀ (f:Nat) (v2:Int) (s:AS),s.keep [1,3,7,8] [1]=some ⟨[(1,.lp 1 0),(3,.i .i64 v0),(7,.i .i64 v1),(8,.i .i64 v2)],[(1,[.i .i64 v3,.vs v4.length .unk (enc Pl.cells v4),.vs v5.length .unk (enc Pl.cells v5)])],[(1,tab64)],3⟩→
 evLoop (evC (OV F D) 3 F a17L2) f s K=match Pref14_RightL2 F v0 v1 v3 v4 v5 f v2 with|none=>none|some (.inl _)=>K .ret ⟨[(2,.b false)],[],[(1,tab64)],3⟩|some (.inr _)=>K (.ex 6) ⟨[(1,.lp 1 0),(3,.i .i64 v0),(7,.i .i64 v1)],[(1,[.i .i64 v3,.vs v4.length .unk (enc Pl.cells v4),.vs v5.length .unk (enc Pl.cells v5)])],[(1,tab64)],3⟩:=by
 obtain ⟨D,rfl⟩:=dex hD
 have cref14_commute0:=eref14_commute (D) (by omega) F
 intro f
 induction f with
 |zero=>intro v2 s hs;simp only [evLoop,Pref14_RightL2]
 |succ f ih=>
 intro v2 s hs
 obtain ⟨k0,hk,hn,he,hr⟩:=@lk_all (OV F (D+1)) 3 F a17L2 f K
 rw [loop_succ,hk,a17L2,runC_cut,hs]
 clear hs
 simp only [Pref14_RightL2]
 clear hk
 by_cases h1:v2<v0
 rcases ixo (@pk_Pl_cells v4 v1) with h2|⟨x1,h2⟩
 rotate_left
 rcases ixo (@pk_Pl_cells v4 v2) with h3|⟨x2,h3⟩
 rotate_left
 rcases h4:(Pref14_commute F x1.N x1.X x1.Z x1.Ph x2.N x2.X x2.Z x2.Ph) with _|r3
 rotate_left
 rcases h5:(r3) with _|_
 rotate_left
 rcases ixo (@pk_Pl_cells v5 v1) with h6|⟨x4,h6⟩
 rotate_left
 rcases ixo (@pk_Pl_cells v5 v2) with h7|⟨x5,h7⟩
 rotate_left
 rcases h8:(Pref14_commute F x4.N x4.X x4.Z x4.Ph x5.N x5.X x5.Z x5.Ph) with _|r6
 rotate_left
 rcases h9:(r6) with _|_
 rotate_left
 rcases h10:(Pref14_commute F x4.N x4.X x4.Z x4.Ph x2.N x2.X x2.Z x2.Ph) with _|r7
 rotate_left
 by_cases h11:v1=v2
 replace h11:=eq_true h11
 rcases h12:(r7) with _|_
 rotate_left
 rotate_left
 rcases h13:(r7) with _|_
 all_goals simp -implicitDefEqProofs only [*,-ih,vref14_commute,EVA.down,ne_eq,seval]
 all_goals exact ih _ _ (by simp only [*,-ih,vref14_commute,EVA.down,ne_eq,seval])
theorem lref14_RightL3 (D:Nat)(hD:1≤D)(F:Nat)(v0 v2:Int)(v3 v4:List Pl)(K:AE→AS→Option Res):∀ (f:Nat) (v1:Int) (s:AS),s.keep [1,3,7] [1]=some ⟨[(1,.lp 1 0),(3,.i .i64 v0),(7,.i .i64 v1)],[(1,[.i .i64 v2,.vs v3.length .unk (enc Pl.cells v3),.vs v4.length .unk (enc Pl.cells v4)])],[(1,tab64)],3⟩→
 evLoop (evC (OV F D) 3 F a17L3) f s K=match Pref14_RightL3 F v0 v2 v3 v4 f v1 with|none=>none|some (.inl _)=>K .ret ⟨[(2,.b false)],[],[(1,tab64)],3⟩|some (.inr _)=>K (.ex 4) ⟨[],[],[(1,tab64)],3⟩:=by
 obtain ⟨D,rfl⟩:=dex hD
 intro f
 induction f with
 |zero=>intro v1 s hs;simp only [evLoop,Pref14_RightL3]
 |succ f ih=>
 intro v1 s hs
 obtain ⟨k0,hk,hn,he,hr⟩:=@lk_all (OV F (D+1)) 3 F a17L3 f K
 rw [loop_succ,hk,a17L3,runC_cut,hs]
 clear hs
 simp only [Pref14_RightL3]
 clear hk
 by_cases h1:v1<v0
 simp -implicitDefEqProofs only [*,-ih,runC_loop,EVA.down,ne_eq,seval]
 rw [lref14_RightL2 (D+1) (by omega) F v0 v1 v2 v3 v4 _ F 0 _ (by simp only [*,-ih,EVA.down,ne_eq,seval];try rfl)]
 rcases h2:(Pref14_RightL2 F v0 v1 v2 v3 v4 F 0) with _|(_|_)
 all_goals simp -implicitDefEqProofs only [*,-ih,EVA.down,ne_eq,seval]
 all_goals exact ih _ _ (by simp only [*,-ih,EVA.down,ne_eq,seval])
theorem eref14_Right (D:Nat)(hD:2≤D)(F:Nat)(a0_N:Int)(a0_Stab a0_Destab:List Pl)(q:Bool):evW 3 (OV F D) F a17 (some [.agg [.i .i64 a0_N,.vs a0_Stab.length .unk (enc Pl.cells a0_Stab),.vs a0_Destab.length .unk (enc Pl.cells a0_Destab)]]) q G0 =
 match Pref14_Right F a0_N a0_Stab a0_Destab with|none=>none|some r0=>some (.b r0,none):=by
 obtain ⟨D,rfl⟩:=dex hD
 rw [evW_some,G0]
 simp only [Pref14_Right]
 by_cases h1:a0_N<0
 rotate_left
 by_cases h2:a0_N>64
 rotate_left
 by_cases h3:(a0_Stab.length:Int)=a0_N
 replace h3:=eq_true h3
 by_cases h4:(a0_Destab.length:Int)=a0_N
 replace h4:=eq_true h4
 simp -implicitDefEqProofs only [*,a17,runC_loop,EVA.down,ne_eq,seval]
 rw [lref14_RightL1 (D+2) (by omega) F a0_N a0_N a0_Stab a0_Destab _ F 0 _ (by simp only [*,a17,EVA.down,ne_eq,seval];try rfl)]
 rcases h5:(Pref14_RightL1 F a0_N a0_N a0_Stab a0_Destab F 0) with _|(_|_)
 rotate_left
 rotate_left
 simp -implicitDefEqProofs only [*,a17,runC_loop,EVA.down,ne_eq,seval]
 rw [lref14_RightL3 (D+2) (by omega) F a0_N a0_N a0_Stab a0_Destab _ F 0 _ (by simp only [*,a17,EVA.down,ne_eq,seval];try rfl)]
 rcases h6:(Pref14_RightL3 F a0_N a0_N a0_Stab a0_Destab F 0) with _|(_|_)
 all_goals simp -implicitDefEqProofs only [*,a17,EVA.down,ne_eq,seval]
theorem vref14_Right {D F n:Nat}{args:List AV}{h:AHeap}:OV F (D+1) 17 args h n (n+1)=evW 3 (OV F D) F a17 (frzs (frz true 0 (bif AV.nors args then [] else h) 8) args) (AV.nors args) (hglb h 3):=evV_frozen rfl
theorem lref14_looseL0 (D:Nat)(hD:1≤D)(F:Nat)(v1:Int)(v2 v3:List Pl)(v4:Int)(v5 v6:BitVec 64)(v7:Int)(K:AE→AS→Option Res):∀ (f:Nat) (v0:Int) (s:AS),s.keep [2,3,5] [2,3]=some ⟨[(2,.lp 2 0),(3,.lp 3 0),(5,.i .i64 v0)],[(2,[.i .i64 v1,.vs v2.length .unk (enc Pl.cells v2),.vs v3.length .unk (enc Pl.cells v3)]),(3,[.i .i64 v4,.i .u64 (U v5),.i .u64 (U v6),.i .i64 v7])],[(1,tab64)],3⟩→
 evLoop (evC (OV F D) 3 F a19L0) f s K=match Pref14_looseL0 F v1 v2 v3 v4 v5 v6 v7 f v0 with|none=>none|some (.inl y0)=>K .ret ⟨[(4,.i .i64 y0)],[],[(1,tab64)],3⟩|some (.inr _)=>K (.ex 0) ⟨[],[],[(1,tab64)],3⟩:=by
 obtain ⟨D,rfl⟩:=dex hD
 have cref14_commute0:=eref14_commute (D) (by omega) F
 intro f
 induction f with
 |zero=>intro v0 s hs;simp only [evLoop,Pref14_looseL0]
 |succ f ih=>
 intro v0 s hs
 obtain ⟨k0,hk,hn,he,hr⟩:=@lk_all (OV F (D+1)) 3 F a19L0 f K
 rw [loop_succ,hk,a19L0,runC_cut,hs]
 clear hs
 simp only [Pref14_looseL0]
 clear hk
 by_cases h1:v0<v1
 rcases ixo (@pk_Pl_cells v2 v0) with h2|⟨x1,h2⟩
 rotate_left
 rcases h3:(Pref14_commute F x1.N x1.X x1.Z x1.Ph v4 v5 v6 v7) with _|r2
 rotate_left
 rcases h4:(r2) with _|_
 all_goals simp -implicitDefEqProofs only [*,-ih,vref14_commute,EVA.down,ne_eq,seval]
 all_goals exact ih _ _ (by simp only [*,-ih,vref14_commute,EVA.down,ne_eq,seval])
theorem eref14_loose (D:Nat)(hD:1≤D)(F:Nat)(a0_N:Int)(a0_Stab a0_Destab:List Pl)(a1_N:Int)(a1_X a1_Z:BitVec 64)(a1_Phase:Int)(q:Bool):evW 3 (OV F D) F a19 (some [.agg [.i .i64 a0_N,.vs a0_Stab.length .unk (enc Pl.cells a0_Stab),.vs a0_Destab.length .unk (enc Pl.cells a0_Destab)],.agg [.i .i64 a1_N,.i .u64 (U a1_X),.i .u64 (U a1_Z),.i .i64 a1_Phase]]) q G0 =
 match Pref14_loose F a0_N a0_Stab a0_Destab a1_N a1_X a1_Z a1_Phase with|none=>none|some r0=>some (.i .i64 r0,none):=by
 obtain ⟨D,rfl⟩:=dex hD
 rw [evW_some,G0]
 simp only [Pref14_loose]
 simp -implicitDefEqProofs only [*,a19,runC_loop,EVA.down,ne_eq,seval]
 rw [lref14_looseL0 (D+1) (by omega) F a0_N a0_Stab a0_Destab a1_N a1_X a1_Z a1_Phase _ F 0 _ (by simp only [*,a19,EVA.down,ne_eq,seval];try rfl)]
 rcases h1:(Pref14_looseL0 F a0_N a0_Stab a0_Destab a1_N a1_X a1_Z a1_Phase F 0) with _|(y1|_)
 all_goals simp -implicitDefEqProofs only [*,a19,EVA.down,ne_eq,seval]
theorem vref14_loose {D F n:Nat}{args:List AV}{h:AHeap}:OV F (D+1) 19 args h n (n+1)=evW 3 (OV F D) F a19 (frzs (frz true 0 (bif AV.nors args then [] else h) 8) args) (AV.nors args) (hglb h 3):=evV_frozen rfl
theorem eref14_times (D:Nat)(hD:4≤D)(F:Nat)(a0_N:Int)(a0_X a0_Z:BitVec 64)(a0_Phase a1_N:Int)(a1_X a1_Z:BitVec 64)(a1_Phase:Int)(q:Bool):evW 3 (OV F D) F a46 (some [.agg [.i .i64 a0_N,.i .u64 (U a0_X),.i .u64 (U a0_Z),.i .i64 a0_Phase],.agg [.i .i64 a1_N,.i .u64 (U a1_X),.i .u64 (U a1_Z),.i .i64 a1_Phase]]) q G0 =
 match Pref14_times F a0_N a0_X a0_Z a0_Phase a1_N a1_X a1_Z a1_Phase with|none=>none|some (r0,r1,r2,r3)=>some (.agg [.i .i64 r0,.i .u64 (U r1),.i .u64 (U r2),.i .i64 r3],none):=by
 obtain ⟨D,rfl⟩:=dex hD
 have cref13_Mul0:=eref13_Mul (D+3) (by omega) F
 rw [evW_some,G0]
 simp only [Pref14_times]
 rcases h1:(Pref13_Mul F a0_N a0_X a0_Z a0_Phase a1_N a1_X a1_Z a1_Phase) with _|⟨r1,r2,r3,r4,r5⟩
 all_goals simp -implicitDefEqProofs only [*,a46,vref13_Mul,EVA.down,ne_eq,seval]
theorem vref14_times {D F n:Nat}{args:List AV}{h:AHeap}:OV F (D+1) 46 args h n (n+1)=evW 3 (OV F D) F a46 (frzs (frz true 0 (bif AV.nors args then [] else h) 8) args) (AV.nors args) (hglb h 3):=evV_frozen rfl
theorem lref14_signL0 (D:Nat)(hD:5≤D)(F:Nat)(v1:Int)(v2 v3:List Pl)(v4:Int)(v5 v6:BitVec 64)(v7:Int)(K:AE→AS→Option Res):∀ (f:Nat) (v0 v8:Int) (v9 v10:BitVec 64) (v11:Int) (s:AS),s.keep [2,3,5,6] [2,3,5]=some ⟨[(2,.lp 2 0),(3,.lp 3 0),(5,.lp 5 0),(6,.i .i64 v0)],[(2,[.i .i64 v1,.vs v2.length .unk (enc Pl.cells v2),.vs v3.length .unk (enc Pl.cells v3)]),(3,[.i .i64 v4,.i .u64 (U v5),.i .u64 (U v6),.i .i64 v7]),(5,[.i .i64 v8,.i .u64 (U v9),.i .u64 (U v10),.i .i64 v11])],[(1,tab64)],3⟩→
 evLoop (evC (OV F D) 3 F a20L0) f s K=match Pref14_signL0 F v1 v2 v3 v4 v5 v6 v7 f v0 v8 v9 v10 v11 with|none=>none|some (y0,y1,y2,y3)=>K (.ex 0) ⟨[(3,.lp 3 0),(5,.lp 5 0)],[(3,[.i .i64 v4,.i .u64 (U v5),.i .u64 (U v6),.i .i64 v7]),(5,[.i .i64 y0,.i .u64 (U y1),.i .u64 (U y2),.i .i64 y3])],[(1,tab64)],3⟩:=by
 obtain ⟨D,rfl⟩:=dex hD
 have cref14_commute0:=eref14_commute (D+4) (by omega) F
 have cref14_times0:=eref14_times (D+4) (by omega) F
 intro f
 induction f with
 |zero=>intro v0 v8 v9 v10 v11 s hs;simp only [evLoop,Pref14_signL0]
 |succ f ih=>
 intro v0 v8 v9 v10 v11 s hs
 obtain ⟨k0,hk,hn,he,hr⟩:=@lk_all (OV F (D+5)) 3 F a20L0 f K
 rw [loop_succ,hk,a20L0,runC_cut,hs]
 clear hs
 simp only [Pref14_signL0]
 clear hk
 by_cases h1:v0<v1
 rcases ixo (@pk_Pl_cells v3 v0) with h2|⟨x1,h2⟩
 rotate_left
 rcases h3:(Pref14_commute F x1.N x1.X x1.Z x1.Ph v4 v5 v6 v7) with _|r2
 rotate_left
 rcases h4:(r2) with _|_
 rcases ixo (@pk_Pl_cells v2 v0) with h5|⟨x3,h5⟩
 rotate_left
 rcases h6:(Pref14_times F v8 v9 v10 v11 x3.N x3.X x3.Z x3.Ph) with _|⟨r4,r5,r6,r7⟩
 all_goals simp -implicitDefEqProofs only [*,-ih,vref14_commute,vref14_times,EVA.down,ne_eq,seval]
 all_goals exact ih _ _ _ _ _ _ (by simp only [*,-ih,vref14_commute,vref14_times,EVA.down,ne_eq,seval])
theorem eref14_sign (D:Nat)(hD:5≤D)(F:Nat)(a0_N:Int)(a0_Stab a0_Destab:List Pl)(a1_N:Int)(a1_X a1_Z:BitVec 64)(a1_Phase:Int)(q:Bool):evW 3 (OV F D) F a20 (some [.agg [.i .i64 a0_N,.vs a0_Stab.length .unk (enc Pl.cells a0_Stab),.vs a0_Destab.length .unk (enc Pl.cells a0_Destab)],.agg [.i .i64 a1_N,.i .u64 (U a1_X),.i .u64 (U a1_Z),.i .i64 a1_Phase]]) q G0 =
 match Pref14_sign F a0_N a0_Stab a0_Destab a1_N a1_X a1_Z a1_Phase with|none=>none|some r0=>some (.i .i64 r0,none):=by
 obtain ⟨D,rfl⟩:=dex hD
 rw [evW_some,G0]
 simp only [Pref14_sign]
 simp -implicitDefEqProofs only [*,a20,runC_loop,EVA.down,ne_eq,seval]
 rw [lref14_signL0 (D+5) (by omega) F a0_N a0_Stab a0_Destab a1_N a1_X a1_Z a1_Phase _ F 0 a0_N 0#64 0#64 0 _ (by simp only [*,a20,EVA.down,ne_eq,seval];try rfl)]
 rcases h1:(Pref14_signL0 F a0_N a0_Stab a0_Destab a1_N a1_X a1_Z a1_Phase F 0 a0_N 0#64 0#64 0) with _|⟨y1,y2,y3,y4⟩
 rotate_left
 by_cases h2:y4=a1_Phase
 replace h2:=eq_true h2
 all_goals simp -implicitDefEqProofs only [*,a20,EVA.down,ne_eq,seval]
theorem vref14_sign {D F n:Nat}{args:List AV}{h:AHeap}:OV F (D+1) 20 args h n (n+1)=evW 3 (OV F D) F a20 (frzs (frz true 0 (bif AV.nors args then [] else h) 8) args) (AV.nors args) (hglb h 3):=evV_frozen rfl
theorem eref14_Member (D:Nat)(hD:6≤D)(F:Nat)(a0_N:Int)(a0_Stab a0_Destab:List Pl)(a1_N:Int)(a1_X a1_Z:BitVec 64)(a1_Phase:Int)(q:Bool):evW 3 (OV F D) F a9 (some [.agg [.i .i64 a0_N,.vs a0_Stab.length .unk (enc Pl.cells a0_Stab),.vs a0_Destab.length .unk (enc Pl.cells a0_Destab)],.agg [.i .i64 a1_N,.i .u64 (U a1_X),.i .u64 (U a1_Z),.i .i64 a1_Phase]]) q G0 =
 match Pref14_Member F a0_N a0_Stab a0_Destab a1_N a1_X a1_Z a1_Phase with|none=>none|some (r0,r1)=>some (.tup [.i .i64 r0,.i .i64 r1],none):=by
 obtain ⟨D,rfl⟩:=dex hD
 have cref14_Right0:=eref14_Right (D+5) (by omega) F
 have cref13_Right0:=eref13_Right (D+5) (by omega) F
 have cref14_loose0:=eref14_loose (D+5) (by omega) F
 have cref14_sign0:=eref14_sign (D+5) (by omega) F
 rw [evW_some,G0]
 simp only [Pref14_Member]
 rcases h1:(Pref14_Right F a0_N a0_Stab a0_Destab) with _|r1
 rotate_left
 rcases h2:(r1) with _|_
 rotate_left
 rcases h3:(Pref13_Right F a1_N a1_X a1_Z a1_Phase) with _|r2
 rotate_left
 rcases h4:(r2) with _|_
 rotate_left
 by_cases h5:a1_N=a0_N
 replace h5:=eq_true h5
 by_cases h6:(a1_Phase.tmod 2)=1
 replace h6:=eq_true h6
 rotate_left
 rcases h7:(Pref14_loose F a0_N a0_Stab a0_Destab a1_N a1_X a1_Z a1_Phase) with _|r3
 rotate_left
 by_cases h8:r3≥0
 rotate_left
 rcases h9:(Pref14_sign F a0_N a0_Stab a0_Destab a1_N a1_X a1_Z a1_Phase) with _|r4
 all_goals simp -implicitDefEqProofs only [*,a9,vref14_Right,vref13_Right,vref14_loose,vref14_sign,EVA.down,ne_eq,seval]
theorem vref14_Member {D F n:Nat}{args:List AV}{h:AHeap}:OV F (D+1) 9 args h n (n+1)=evW 3 (OV F D) F a9 (frzs (frz true 0 (bif AV.nors args then [] else h) 8) args) (AV.nors args) (hglb h 3):=evV_frozen rfl
theorem elaw22_num (D:Nat)(hD:0≤D)(F:Nat)(a0:Int)(q:Bool):evW 3 (OV F D) F a10 (some [.i .i64 a0]) q G0 =
 some (.i .i64 ((Plaw22_num a0)),none):=by
 rw [evW_some,G0]
 skip
 all_goals simp -implicitDefEqProofs (maxSteps:=4000000) only [*,a10,Plaw22_num,EVA.down,ne_eq,seval]
theorem vlaw22_num {D F n:Nat}{args:List AV}{h:AHeap}:OV F (D+1) 10 args h n (n+1)=evW 3 (OV F D) F a10 (frzs (frz true 0 (bif AV.nors args then [] else h) 8) args) (AV.nors args) (hglb h 3):=evV_frozen rfl
theorem elaw22_ExpectCarries (D:Nat)(hD:8≤D)(F:Nat)(a0_Qubits a0_Bits:Int)(a0_Ops:List S49)(a1_N:Int)(a1_X a1_Z:BitVec 64)(a1_Phase a2_N:Int)(a2_Stab a2_Destab:List Pl)(q:Bool):evW 3 (OV F D) F a3 (some [.agg [.i .i64 a0_Qubits,.i .i64 a0_Bits,.vs a0_Ops.length .unk (enc S49.cs a0_Ops)],.agg [.i .i64 a1_N,.i .u64 (U a1_X),.i .u64 (U a1_Z),.i .i64 a1_Phase],.agg [.i .i64 a2_N,.vs a2_Stab.length .unk (enc Pl.cells a2_Stab),.vs a2_Destab.length .unk (enc Pl.cells a2_Destab)]]) q G0 =
 match Plaw22_ExpectCarries F a0_Qubits a0_Bits a0_Ops a1_N a1_X a1_Z a1_Phase a2_N a2_Stab a2_Destab with|none=>none|some r0=>some (.b r0,none):=by
 obtain ⟨D,rfl⟩:=dex hD
 have cexpect_Forth0:=eexpect_Forth (D+7) (by omega) F
 have cref22_Forth0:=eref22_Forth (D+7) (by omega) F
 have cexpect_Back0:=eexpect_Back (D+7) (by omega) F
 have cref22_Back0:=eref22_Back (D+7) (by omega) F
 have cexpect_Tableau0:=eexpect_Tableau (D+7) (by omega) F
 have cref14_Member0:=eref14_Member (D+7) (by omega) F
 have claw22_num0:=elaw22_num (D+7) (by omega) F
 rw [evW_some,G0]
 simp only [Plaw22_ExpectCarries]
 rcases h1:(Pexpect_Forth F a0_Qubits a0_Bits a0_Ops a1_N a1_X a1_Z a1_Phase) with _|⟨r1,r2,r3,r4,r5⟩
 rotate_left
 rcases h2:(Pref22_Forth F a0_Qubits a0_Bits a0_Ops a1_N a1_X a1_Z a1_Phase) with _|⟨r6,r7,r8,r9,r10⟩
 rotate_left
 rcases h3:(Pexpect_Back F a0_Qubits a0_Bits a0_Ops a1_N a1_X a1_Z a1_Phase) with _|⟨r11,r12,r13,r14,r15⟩
 rotate_left
 rcases h4:(Pref22_Back F a0_Qubits a0_Bits a0_Ops a1_N a1_X a1_Z a1_Phase) with _|⟨r16,r17,r18,r19,r20⟩
 rotate_left
 rcases h5:(Pexpect_Tableau F a2_N a2_Stab a2_Destab a1_N a1_X a1_Z a1_Phase) with _|⟨r21,r22⟩
 rotate_left
 rcases h6:(Pref14_Member F a2_N a2_Stab a2_Destab a1_N a1_X a1_Z a1_Phase) with _|⟨r23,r24⟩
 rotate_left
 rcases h7:((decide (r1=r6)&&(decide (r2=r7)&&(decide (r3=r8)&&decide (r4=r9))))) with _|_
 rotate_left
 by_cases h8:(Plaw22_num r5)=r10
 replace h8:=eq_true h8
 rcases h9:((decide (r11=r16)&&(decide (r12=r17)&&(decide (r13=r18)&&decide (r14=r19))))) with _|_
 rotate_left
 by_cases h10:(Plaw22_num r15)=r20
 replace h10:=eq_true h10
 by_cases h11:r21=r23
 replace h11:=eq_true h11
 by_cases h12:(Plaw22_num r22)=r24
 replace h12:=eq_true h12
 all_goals simp -implicitDefEqProofs (maxSteps:=4000000) only [*,a3,vexpect_Forth,vref22_Forth,vexpect_Back,vref22_Back,vexpect_Tableau,vref14_Member,vlaw22_num,k11,EVA.down,ne_eq,seval]
theorem vlaw22_ExpectCarries {D F n:Nat}{args:List AV}{h:AHeap}:OV F (D+1) 3 args h n (n+1)=evW 3 (OV F D) F a3 (frzs (frz true 0 (bif AV.nors args then [] else h) 8) args) (AV.nors args) (hglb h 3):=evV_frozen rfl
end Go.Proofs.YtlgmimclpmolmaaGreatDoor.Ab
