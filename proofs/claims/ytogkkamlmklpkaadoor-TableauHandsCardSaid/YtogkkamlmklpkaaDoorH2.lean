/- Functions of the program as plain functions, and that the abstract machine's evaluation comes to them. Written by G.py. No condition. -/
import Derived.Test.YtogkkamlmklpkaaDoorH1
set_option maxRecDepth 100000
set_option maxHeartbeats 4000000
set_option linter.unusedVariables false
set_option linter.unusedSimpArgs false
namespace Go.Proofs.YtogkkamlmklpkaaDoor.Ab
open Go
theorem etb_Gate (D:Nat)(hD:6≤D)(F:Nat)(a0_N:Int)(a0_Stab a0_Destab:List Pl)(a1:Int)(a2:List Int)(q:Bool):evW 2 (OV F D) F a20 (some [.agg [.i .i64 a0_N,.vs a0_Stab.length .unk (enc Pl.cells a0_Stab),.vs a0_Destab.length .unk (enc Pl.cells a0_Destab)],.i .i64 a1,.vs a2.length .unk (enc c3 a2)]) q G0 =
 match Ptb_Gate F a0_N a0_Stab a0_Destab a1 a2 with|none=>none|some (r0,r1,r2,r3)=>some (.tup [.agg [.i .i64 r0,.vs r1.length .unk (enc Pl.cells r1),.vs r2.length .unk (enc Pl.cells r2)],.i .i64 r3],none):=by
 obtain ⟨D,rfl⟩:=dex hD
 have ctb_Check0:=etb_Check (D+5) (by omega) F
 have cgate_Check0:=egate_Check (D+5) (by omega) F
 have cgate_Clifford0:=egate_Clifford (D+5) (by omega) F
 have ctb_copiedo0:=etb_copiedo (D+5) (by omega) F
 rw [evW_some,G0]
 simp only [Ptb_Gate]
 rcases h1:(Ptb_Check F a0_N a0_Stab a0_Destab) with _|r1
 rotate_left
 by_cases h2:r1=0
 replace h2:=eq_true h2
 rcases h3:(Pgate_Check F a1 a2 a0_N) with _|r2
 rotate_left
 by_cases h4:r2=0
 replace h4:=eq_true h4
 rcases h5:((Pgate_Clifford a1)) with _|_
 rotate_left
 rcases h6:(Ptb_copied a0_N a0_Stab a0_Destab) with _|⟨r3,r4,r5⟩
 rotate_left
 by_cases h7:r4=[]
 replace h7:=eq_true h7
 by_cases h8:r5=[]
 replace h8:=eq_true h8
 simp -implicitDefEqProofs only [*,a20,vtb_Check,vgate_Check,vgate_Clifford,vtb_copiedo,a50,xtb_Gate_1,runC_loop,EVA.down,ne_eq,seval]
 rw [ltb_GateL0 (D+5) (by omega) F ([]) ([]) 0 0 a1 a2 _ F  _ (by simp only [*,a20,vtb_Check,vgate_Check,vgate_Clifford,vtb_copiedo,a50,xtb_Gate_1,EVA.down,ne_eq,seval];try rfl)]
 rcases h9:(Ptb_GateL0 F ([]) ([]) 0 0 a1 a2 F) with _|_
 rotate_left
 simp -implicitDefEqProofs only [*,a20,vtb_Check,vgate_Check,vgate_Clifford,vtb_copiedo,a50,xtb_Gate_1,runC_loop,EVA.down,ne_eq,seval]
 rw [ltb_GateL0 (D+5) (by omega) F ([]) ([]) 0 0 a1 a2 _ F  _ (by simp only [*,a20,vtb_Check,vgate_Check,vgate_Clifford,vtb_copiedo,a50,xtb_Gate_1,EVA.down,ne_eq,seval];try rfl)]
 rw [h9]
 rotate_left
 simp -implicitDefEqProofs only [*,a20,vtb_Check,vgate_Check,vgate_Clifford,vtb_copiedo,a50,xtb_Gate_1,runC_loop,EVA.down,ne_eq,seval]
 rw [ltb_GateL1 (D+5) (by omega) F ([]) ([]) 0 0 r5 a1 a2 _ F  _ (by simp only [*,a20,vtb_Check,vgate_Check,vgate_Clifford,vtb_copiedo,a50,xtb_Gate_1,EVA.down,ne_eq,seval];try rfl)]
 rcases h11:(Ptb_GateL1 F ([]) ([]) 0 0 r5 a1 a2 F) with _|_
 rotate_left
 simp -implicitDefEqProofs only [*,a20,vtb_Check,vgate_Check,vgate_Clifford,vtb_copiedo,a50,xtb_Gate_1,runC_loop,EVA.down,ne_eq,seval]
 rw [ltb_GateL2 (D+5) (by omega) F ((r5.length:Nat):Int) a1 a2 _ F 0 r5 _ (by simp only [*,a20,vtb_Check,vgate_Check,vgate_Clifford,vtb_copiedo,a50,xtb_Gate_1,EVA.down,ne_eq,seval];try rfl)]
 rcases h12:(Ptb_GateL2 F ((r5.length:Nat):Int) a1 a2 F 0 r5) with _|y6
 rotate_left
 have h12l0:y6.length=r5.length:=by have q:=ltb_GateL2n0_0 F ((r5.length:Nat):Int) a1 a2 F 0 r5 y6 h12;simpa only [List.length_set] using q
 have h12t0:=len_facts h12l0
 rotate_left
 by_cases h13:r5=[]
 replace h13:=eq_true h13
 simp -implicitDefEqProofs only [*,a20,vtb_Check,vgate_Check,vgate_Clifford,vtb_copiedo,a50,xtb_Gate_1,runC_loop,EVA.down,ne_eq,seval]
 rw [ltb_GateL2 (D+5) (by omega) F ((r4.length:Nat):Int) a1 a2 _ F 0 r4 _ (by simp only [*,a20,vtb_Check,vgate_Check,vgate_Clifford,vtb_copiedo,a50,xtb_Gate_1,EVA.down,ne_eq,seval];try rfl)]
 rcases h14:(Ptb_GateL2 F ((r4.length:Nat):Int) a1 a2 F 0 r4) with _|y7
 rotate_left
 have h14l0:y7.length=r4.length:=by have q:=ltb_GateL2n0_0 F ((r4.length:Nat):Int) a1 a2 F 0 r4 y7 h14;simpa only [List.length_set] using q
 have h14t0:=len_facts h14l0
 simp -implicitDefEqProofs only [*,a20,vtb_Check,vgate_Check,vgate_Clifford,vtb_copiedo,a50,xtb_Gate_1,runC_loop,EVA.down,ne_eq,seval]
 rw [ltb_GateL1 (D+5) (by omega) F ([]) ([]) 0 0 y7 a1 a2 _ F  _ (by simp only [*,a20,vtb_Check,vgate_Check,vgate_Clifford,vtb_copiedo,a50,xtb_Gate_1,EVA.down,ne_eq,seval];try rfl)]
 rcases h15:(Ptb_GateL1 F ([]) ([]) 0 0 y7 a1 a2 F) with _|_
 rotate_left
 rotate_left
 simp -implicitDefEqProofs only [*,a20,vtb_Check,vgate_Check,vgate_Clifford,vtb_copiedo,a50,xtb_Gate_1,runC_loop,EVA.down,ne_eq,seval]
 rw [ltb_GateL3 (D+5) (by omega) F ((r4.length:Nat):Int) r5 a1 a2 _ F 0 r4 _ (by simp only [*,a20,vtb_Check,vgate_Check,vgate_Clifford,vtb_copiedo,a50,xtb_Gate_1,EVA.down,ne_eq,seval];try rfl)]
 rcases h16:(Ptb_GateL3 F ((r4.length:Nat):Int) r5 a1 a2 F 0 r4) with _|y8
 rotate_left
 have h16l0:y8.length=r4.length:=by have q:=ltb_GateL3n0_0 F ((r4.length:Nat):Int) r5 a1 a2 F 0 r4 y8 h16;simpa only [List.length_set] using q
 have h16t0:=len_facts h16l0
 simp -implicitDefEqProofs only [*,a20,vtb_Check,vgate_Check,vgate_Clifford,vtb_copiedo,a50,xtb_Gate_1,runC_loop,EVA.down,ne_eq,seval]
 rw [ltb_GateL4 (D+5) (by omega) F ((r5.length:Nat):Int) y8 a1 a2 _ F 0 r5 _ (by simp only [*,a20,vtb_Check,vgate_Check,vgate_Clifford,vtb_copiedo,a50,xtb_Gate_1,EVA.down,ne_eq,seval];try rfl)]
 rcases h17:(Ptb_GateL4 F ((r5.length:Nat):Int) y8 a1 a2 F 0 r5) with _|y9
 rotate_left
 have h17l0:y9.length=r5.length:=by have q:=ltb_GateL4n0_0 F ((r5.length:Nat):Int) y8 a1 a2 F 0 r5 y9 h17;simpa only [List.length_set,h16l0] using q
 have h17t0:=len_facts h17l0
 all_goals simp -implicitDefEqProofs only [*,a20,vtb_Check,vgate_Check,vgate_Clifford,vtb_copiedo,a50,xtb_Gate_1,EVA.down,ne_eq,seval]
theorem vtb_Gate {D F n:Nat}{args:List AV}{h:AHeap}:OV F (D+1) 20 args h n (n+1)=evW 2 (OV F D) F a20 (frzs (frz true 0 (bif AV.nors args then [] else h) 8) args) (AV.nors args) (hglb h 2):=evV_frozen rfl
theorem eref13_bit (D:Nat)(hD:0≤D)(F:Nat)(a0:BitVec 64)(a1:Int)(q:Bool):evW 2 (OV F D) F a75 (some [.i .u64 (U a0),.i .i64 a1]) q G0 =
 some (.i .i64 ((Pref13_bit a0 a1)),none):=by
 rw [evW_some,G0]
 skip
 all_goals simp -implicitDefEqProofs only [*,a75,Pref13_bit,EVA.down,ne_eq,seval]
theorem vref13_bit {D F n:Nat}{args:List AV}{h:AHeap}:OV F (D+1) 75 args h n (n+1)=evW 2 (OV F D) F a75 (frzs (frz true 0 (bif AV.nors args then [] else h) 8) args) (AV.nors args) (hglb h 2):=evV_frozen rfl
theorem lref13_RightL0 (D:Nat)(hD:1≤D)(F:Nat)(v1:Int)(v2 v3:BitVec 64)(v4:Int)(K:AE→AS→Option Res):∀ (f:Nat) (v0:Int) (s:AS),s.keep [1,3] [1]=some ⟨[(1,.lp 1 0),(3,.i .i64 v0)],[(1,[.i .i64 v1,.i .u64 (U v2),.i .u64 (U v3),.i .i64 v4])],[(0,tab64)],2⟩→
 evLoop (evC (OV F D) 2 F a36L0) f s K=match Pref13_RightL0 v1 v2 v3 v4 f v0 with|none=>none|some (.inl _)=>K .ret ⟨[(2,.b false)],[],[(0,tab64)],2⟩|some (.inr _)=>K (.ex 0) ⟨[],[],[(0,tab64)],2⟩:=by
 obtain ⟨D,rfl⟩:=dex hD
 have cref13_bit0:=eref13_bit (D) (by omega) F
 intro f
 induction f with
 |zero=>intro v0 s hs;simp only [evLoop,Pref13_RightL0]
 |succ f ih=>
 intro v0 s hs
 obtain ⟨k0,hk,hn,he,hr⟩:=@lk_all (OV F (D+1)) 2 F a36L0 f K
 rw [loop_succ,hk,a36L0,runC_cut,hs]
 clear hs
 simp only [Pref13_RightL0]
 clear hk
 by_cases h1:v0<64
 by_cases h2:(Pref13_bit v2 v0)=1
 replace h2:=eq_true h2
 rotate_left
 by_cases h3:(Pref13_bit v3 v0)=1
 replace h3:=eq_true h3
 all_goals simp -implicitDefEqProofs only [*,-ih,vref13_bit,EVA.down,ne_eq,seval]
 all_goals exact ih _ _ (by simp only [*,-ih,vref13_bit,EVA.down,ne_eq,seval])
theorem eref13_Right (D:Nat)(hD:1≤D)(F:Nat)(a0_N:Int)(a0_X a0_Z:BitVec 64)(a0_Phase:Int)(q:Bool):evW 2 (OV F D) F a36 (some [.agg [.i .i64 a0_N,.i .u64 (U a0_X),.i .u64 (U a0_Z),.i .i64 a0_Phase]]) q G0 =
 match Pref13_Right F a0_N a0_X a0_Z a0_Phase with|none=>none|some r0=>some (.b r0,none):=by
 obtain ⟨D,rfl⟩:=dex hD
 rw [evW_some,G0]
 simp only [Pref13_Right]
 by_cases h1:a0_N<0
 rotate_left
 by_cases h2:a0_N>64
 rotate_left
 by_cases h3:a0_Phase<0
 rotate_left
 by_cases h4:a0_Phase>3
 rotate_left
 simp -implicitDefEqProofs only [*,a36,runC_loop,EVA.down,ne_eq,seval]
 rw [lref13_RightL0 (D+1) (by omega) F a0_N a0_X a0_Z a0_Phase _ F a0_N _ (by simp only [*,a36,EVA.down,ne_eq,seval];try rfl)]
 rcases h5:(Pref13_RightL0 a0_N a0_X a0_Z a0_Phase F a0_N) with _|(_|_)
 all_goals simp -implicitDefEqProofs only [*,a36,EVA.down,ne_eq,seval]
theorem vref13_Right {D F n:Nat}{args:List AV}{h:AHeap}:OV F (D+1) 36 args h n (n+1)=evW 2 (OV F D) F a36 (frzs (frz true 0 (bif AV.nors args then [] else h) 8) args) (AV.nors args) (hglb h 2):=evV_frozen rfl
theorem lref14_RightL0 (D:Nat)(hD:2≤D)(F:Nat)(v0 v1 v3:Int)(v4 v5:List Pl)(K:AE→AS→Option Res):∀ (f:Nat) (v2:Int) (s:AS),s.keep [1,3,4,5] [1]=some ⟨[(1,.lp 1 0),(3,.i .i64 v0),(4,.i .i64 v1),(5,.i .i64 v2)],[(1,[.i .i64 v3,.vs v4.length .unk (enc Pl.cells v4),.vs v5.length .unk (enc Pl.cells v5)])],[(0,tab64)],2⟩→
 evLoop (evC (OV F D) 2 F a10L0) f s K=match Pref14_RightL0 F v0 v1 v3 v4 v5 f v2 with|none=>none|some (.inl _)=>K .ret ⟨[(2,.b false)],[],[(0,tab64)],2⟩|some (.inr _)=>K (.ex 2) ⟨[(1,.lp 1 0),(3,.i .i64 v0),(4,.i .i64 v1)],[(1,[.i .i64 v3,.vs v4.length .unk (enc Pl.cells v4),.vs v5.length .unk (enc Pl.cells v5)])],[(0,tab64)],2⟩:=by
 obtain ⟨D,rfl⟩:=dex hD
 have cref13_Right0:=eref13_Right (D+1) (by omega) F
 intro f
 induction f with
 |zero=>intro v2 s hs;simp only [evLoop,Pref14_RightL0]
 |succ f ih=>
 intro v2 s hs
 obtain ⟨k0,hk,hn,he,hr⟩:=@lk_all (OV F (D+2)) 2 F a10L0 f K
 rw [loop_succ,hk,a10L0,runC_cut,hs]
 clear hs
 simp only [Pref14_RightL0]
 clear hk
 by_cases h1:v2<2
 rcases ixo (@pk_Pl_cells v4 v1) with h2|⟨x1,h2⟩
 rotate_left
 by_cases h3:v2=1
 replace h3:=eq_true h3
 rcases ixo (@pk_Pl_cells v5 v1) with h4|⟨x2,h4⟩
 rotate_left
 rcases h5:(Pref13_Right F x2.N x2.X x2.Z x2.Ph) with _|r3
 rotate_left
 rcases h6:(r3) with _|_
 rotate_left
 by_cases h7:x2.N=v0
 replace h7:=eq_true h7
 by_cases h8:(x2.Ph.tmod 2)=1
 replace h8:=eq_true h8
 rotate_left
 rotate_left
 rotate_left
 rcases h9:(Pref13_Right F x1.N x1.X x1.Z x1.Ph) with _|r4
 rotate_left
 rcases h10:(r4) with _|_
 rotate_left
 by_cases h11:x1.N=v0
 replace h11:=eq_true h11
 by_cases h12:(x1.Ph.tmod 2)=1
 replace h12:=eq_true h12
 all_goals simp -implicitDefEqProofs only [*,-ih,vref13_Right,EVA.down,ne_eq,seval]
 all_goals exact ih _ _ (by simp only [*,-ih,vref13_Right,EVA.down,ne_eq,seval])
theorem lref14_RightL1 (D:Nat)(hD:2≤D)(F:Nat)(v0 v2:Int)(v3 v4:List Pl)(K:AE→AS→Option Res):∀ (f:Nat) (v1:Int) (s:AS),s.keep [1,3,4] [1]=some ⟨[(1,.lp 1 0),(3,.i .i64 v0),(4,.i .i64 v1)],[(1,[.i .i64 v2,.vs v3.length .unk (enc Pl.cells v3),.vs v4.length .unk (enc Pl.cells v4)])],[(0,tab64)],2⟩→
 evLoop (evC (OV F D) 2 F a10L1) f s K=match Pref14_RightL1 F v0 v2 v3 v4 f v1 with|none=>none|some (.inl _)=>K .ret ⟨[(2,.b false)],[],[(0,tab64)],2⟩|some (.inr _)=>K (.ex 0) ⟨[(1,.lp 1 0),(3,.i .i64 v0)],[(1,[.i .i64 v2,.vs v3.length .unk (enc Pl.cells v3),.vs v4.length .unk (enc Pl.cells v4)])],[(0,tab64)],2⟩:=by
 obtain ⟨D,rfl⟩:=dex hD
 intro f
 induction f with
 |zero=>intro v1 s hs;simp only [evLoop,Pref14_RightL1]
 |succ f ih=>
 intro v1 s hs
 obtain ⟨k0,hk,hn,he,hr⟩:=@lk_all (OV F (D+2)) 2 F a10L1 f K
 rw [loop_succ,hk,a10L1,runC_cut,hs]
 clear hs
 simp only [Pref14_RightL1]
 clear hk
 by_cases h1:v1<v0
 simp -implicitDefEqProofs only [*,-ih,runC_loop,EVA.down,ne_eq,seval]
 rw [lref14_RightL0 (D+2) (by omega) F v0 v1 v2 v3 v4 _ F 0 _ (by simp only [*,-ih,EVA.down,ne_eq,seval];try rfl)]
 rcases h2:(Pref14_RightL0 F v0 v1 v2 v3 v4 F 0) with _|(_|_)
 all_goals simp -implicitDefEqProofs only [*,-ih,EVA.down,ne_eq,seval]
 all_goals exact ih _ _ (by simp only [*,-ih,EVA.down,ne_eq,seval])
theorem lref14_commuteL0 (D:Nat)(hD:0≤D)(F:Nat)(K:AE→AS→Option Res):∀ (f:Nat) (v0:Int) (v1:BitVec 64) (s:AS),s.keep [5,6] []=some ⟨[(5,.i .i64 v0),(6,.i .u64 (U v1))],[],[(0,tab64)],2⟩→
 evLoop (evC (OV F D) 2 F a37L0) f s K=match Pref14_commuteL0 f v0 v1 with|none=>none|some (y0)=>K (.ex 0) ⟨[(5,.i .i64 y0)],[],[(0,tab64)],2⟩:=by
 intro f
 induction f with
 |zero=>intro v0 v1 s hs;simp only [evLoop,Pref14_commuteL0]
 |succ f ih=>
 intro v0 v1 s hs
 obtain ⟨k0,hk,hn,he,hr⟩:=@lk_all (OV F (D)) 2 F a37L0 f K
 rw [loop_succ,hk,a37L0,runC_cut,hs]
 clear hs
 simp only [Pref14_commuteL0]
 clear hk
 by_cases h1:v1=0#64
 replace h1:=eq_true h1
 all_goals simp -implicitDefEqProofs only [*,-ih,EVA.down,ne_eq,seval]
 all_goals exact ih _ _ _ (by simp only [*,-ih,EVA.down,ne_eq,seval])
theorem eref14_commute (D:Nat)(hD:0≤D)(F:Nat)(a0_N:Int)(a0_X a0_Z:BitVec 64)(a0_Phase a1_N:Int)(a1_X a1_Z:BitVec 64)(a1_Phase:Int)(q:Bool):evW 2 (OV F D) F a37 (some [.agg [.i .i64 a0_N,.i .u64 (U a0_X),.i .u64 (U a0_Z),.i .i64 a0_Phase],.agg [.i .i64 a1_N,.i .u64 (U a1_X),.i .u64 (U a1_Z),.i .i64 a1_Phase]]) q G0 =
 match Pref14_commute F a0_N a0_X a0_Z a0_Phase a1_N a1_X a1_Z a1_Phase with|none=>none|some r0=>some (.b r0,none):=by
 rw [evW_some,G0]
 simp only [Pref14_commute]
 simp -implicitDefEqProofs only [*,a37,runC_loop,EVA.down,ne_eq,seval]
 rw [lref14_commuteL0 (D) (by omega) F  _ F 0 ((a0_X &&& a1_Z) ^^^ (a0_Z &&& a1_X)) _ (by simp only [*,a37,EVA.down,ne_eq,seval];try rfl)]
 rcases h1:(Pref14_commuteL0 F 0 ((a0_X &&& a1_Z) ^^^ (a0_Z &&& a1_X))) with _|y1
 all_goals simp -implicitDefEqProofs only [*,a37,EVA.down,ne_eq,seval]
theorem vref14_commute {D F n:Nat}{args:List AV}{h:AHeap}:OV F (D+1) 37 args h n (n+1)=evW 2 (OV F D) F a37 (frzs (frz true 0 (bif AV.nors args then [] else h) 8) args) (AV.nors args) (hglb h 2):=evV_frozen rfl
theorem lref14_RightL2 (D:Nat)(hD:1≤D)(F:Nat)(v0 v1 v3:Int)(v4 v5:List Pl)(K:AE→AS→Option Res):∀ (f:Nat) (v2:Int) (s:AS),s.keep [1,3,7,8] [1]=some ⟨[(1,.lp 1 0),(3,.i .i64 v0),(7,.i .i64 v1),(8,.i .i64 v2)],[(1,[.i .i64 v3,.vs v4.length .unk (enc Pl.cells v4),.vs v5.length .unk (enc Pl.cells v5)])],[(0,tab64)],2⟩→
 evLoop (evC (OV F D) 2 F a10L2) f s K=match Pref14_RightL2 F v0 v1 v3 v4 v5 f v2 with|none=>none|some (.inl _)=>K .ret ⟨[(2,.b false)],[],[(0,tab64)],2⟩|some (.inr _)=>K (.ex 6) ⟨[(1,.lp 1 0),(3,.i .i64 v0),(7,.i .i64 v1)],[(1,[.i .i64 v3,.vs v4.length .unk (enc Pl.cells v4),.vs v5.length .unk (enc Pl.cells v5)])],[(0,tab64)],2⟩:=by
 obtain ⟨D,rfl⟩:=dex hD
 have cref14_commute0:=eref14_commute (D) (by omega) F
 intro f
 induction f with
 |zero=>intro v2 s hs;simp only [evLoop,Pref14_RightL2]
 |succ f ih=>
 intro v2 s hs
 obtain ⟨k0,hk,hn,he,hr⟩:=@lk_all (OV F (D+1)) 2 F a10L2 f K
 rw [loop_succ,hk,a10L2,runC_cut,hs]
 clear hs
 simp only [Pref14_RightL2]
 clear hk
 by_cases h1:v2<v0
 rcases ixo (@pk_Pl_cells v4 v1) with h2|⟨x1,h2⟩
 rotate_left
 rcases ixo (@pk_Pl_cells v4 v2) with h3|⟨x2,h3⟩
 rotate_left
 rcases h4:(Pref14_commute F x1.N x1.X x1.Z x1.Ph x2.N x2.X x2.Z x2.Ph) with _|r3
 rotate_left
 rcases h5:(r3) with _|_
 rotate_left
 rcases ixo (@pk_Pl_cells v5 v1) with h6|⟨x4,h6⟩
 rotate_left
 rcases ixo (@pk_Pl_cells v5 v2) with h7|⟨x5,h7⟩
 rotate_left
 rcases h8:(Pref14_commute F x4.N x4.X x4.Z x4.Ph x5.N x5.X x5.Z x5.Ph) with _|r6
 rotate_left
 rcases h9:(r6) with _|_
 rotate_left
 rcases h10:(Pref14_commute F x4.N x4.X x4.Z x4.Ph x2.N x2.X x2.Z x2.Ph) with _|r7
 rotate_left
 by_cases h11:v1=v2
 replace h11:=eq_true h11
 rcases h12:(r7) with _|_
 rotate_left
 rotate_left
 rcases h13:(r7) with _|_
 all_goals simp -implicitDefEqProofs only [*,-ih,vref14_commute,EVA.down,ne_eq,seval]
 all_goals exact ih _ _ (by simp only [*,-ih,vref14_commute,EVA.down,ne_eq,seval])
theorem lref14_RightL3 (D:Nat)(hD:1≤D)(F:Nat)(v0 v2:Int)(v3 v4:List Pl)(K:AE→AS→Option Res):∀ (f:Nat) (v1:Int) (s:AS),s.keep [1,3,7] [1]=some ⟨[(1,.lp 1 0),(3,.i .i64 v0),(7,.i .i64 v1)],[(1,[.i .i64 v2,.vs v3.length .unk (enc Pl.cells v3),.vs v4.length .unk (enc Pl.cells v4)])],[(0,tab64)],2⟩→
 evLoop (evC (OV F D) 2 F a10L3) f s K=match Pref14_RightL3 F v0 v2 v3 v4 f v1 with|none=>none|some (.inl _)=>K .ret ⟨[(2,.b false)],[],[(0,tab64)],2⟩|some (.inr _)=>K (.ex 4) ⟨[],[],[(0,tab64)],2⟩:=by
 obtain ⟨D,rfl⟩:=dex hD
 intro f
 induction f with
 |zero=>intro v1 s hs;simp only [evLoop,Pref14_RightL3]
 |succ f ih=>
 intro v1 s hs
 obtain ⟨k0,hk,hn,he,hr⟩:=@lk_all (OV F (D+1)) 2 F a10L3 f K
 rw [loop_succ,hk,a10L3,runC_cut,hs]
 clear hs
 simp only [Pref14_RightL3]
 clear hk
 by_cases h1:v1<v0
 simp -implicitDefEqProofs only [*,-ih,runC_loop,EVA.down,ne_eq,seval]
 rw [lref14_RightL2 (D+1) (by omega) F v0 v1 v2 v3 v4 _ F 0 _ (by simp only [*,-ih,EVA.down,ne_eq,seval];try rfl)]
 rcases h2:(Pref14_RightL2 F v0 v1 v2 v3 v4 F 0) with _|(_|_)
 all_goals simp -implicitDefEqProofs only [*,-ih,EVA.down,ne_eq,seval]
 all_goals exact ih _ _ (by simp only [*,-ih,EVA.down,ne_eq,seval])
theorem eref14_Right (D:Nat)(hD:2≤D)(F:Nat)(a0_N:Int)(a0_Stab a0_Destab:List Pl)(q:Bool):evW 2 (OV F D) F a10 (some [.agg [.i .i64 a0_N,.vs a0_Stab.length .unk (enc Pl.cells a0_Stab),.vs a0_Destab.length .unk (enc Pl.cells a0_Destab)]]) q G0 =
 match Pref14_Right F a0_N a0_Stab a0_Destab with|none=>none|some r0=>some (.b r0,none):=by
 obtain ⟨D,rfl⟩:=dex hD
 rw [evW_some,G0]
 simp only [Pref14_Right]
 by_cases h1:a0_N<0
 rotate_left
 by_cases h2:a0_N>64
 rotate_left
 by_cases h3:(a0_Stab.length:Int)=a0_N
 replace h3:=eq_true h3
 by_cases h4:(a0_Destab.length:Int)=a0_N
 replace h4:=eq_true h4
 simp -implicitDefEqProofs only [*,a10,runC_loop,EVA.down,ne_eq,seval]
 rw [lref14_RightL1 (D+2) (by omega) F a0_N a0_N a0_Stab a0_Destab _ F 0 _ (by simp only [*,a10,EVA.down,ne_eq,seval];try rfl)]
 rcases h5:(Pref14_RightL1 F a0_N a0_N a0_Stab a0_Destab F 0) with _|(_|_)
 rotate_left
 rotate_left
 simp -implicitDefEqProofs only [*,a10,runC_loop,EVA.down,ne_eq,seval]
 rw [lref14_RightL3 (D+2) (by omega) F a0_N a0_N a0_Stab a0_Destab _ F 0 _ (by simp only [*,a10,EVA.down,ne_eq,seval];try rfl)]
 rcases h6:(Pref14_RightL3 F a0_N a0_N a0_Stab a0_Destab F 0) with _|(_|_)
 all_goals simp -implicitDefEqProofs only [*,a10,EVA.down,ne_eq,seval]
theorem vref14_Right {D F n:Nat}{args:List AV}{h:AHeap}:OV F (D+1) 10 args h n (n+1)=evW 2 (OV F D) F a10 (frzs (frz true 0 (bif AV.nors args then [] else h) 8) args) (AV.nors args) (hglb h 2):=evV_frozen rfl
theorem eref06_Is (D:Nat)(hD:0≤D)(F:Nat)(a0:Int)(q:Bool):evW 2 (OV F D) F a102 (some [.i .i64 a0]) q G0 =
 some (.b ((Pref06_Is a0)),none):=by
 rw [evW_some,G0]
 simp only [Pref06_Is]
 by_cases h1:a0≥1
 all_goals simp -implicitDefEqProofs only [*,a102,EVA.down,ne_eq,seval]
theorem vref06_Is {D F n:Nat}{args:List AV}{h:AHeap}:OV F (D+1) 102 args h n (n+1)=evW 2 (OV F D) F a102 (frzs (frz true 0 (bif AV.nors args then [] else h) 8) args) (AV.nors args) (hglb h 2):=evV_frozen rfl
theorem eref06_Arity (D:Nat)(hD:1≤D)(F:Nat)(a0:Int)(q:Bool):evW 2 (OV F D) F a103 (some [.i .i64 a0]) q G0 =
 some (.i .i64 ((Pref06_Arity a0)),none):=by
 obtain ⟨D,rfl⟩:=dex hD
 have cref06_Is0:=eref06_Is (D) (by omega) F
 rw [evW_some,G0]
 simp only [Pref06_Arity]
 rcases h1:((Pref06_Is a0)) with _|_
 rotate_left
 by_cases h2:a0≤10
 rotate_left
 by_cases h3:a0≤17
 all_goals simp -implicitDefEqProofs only [*,a103,vref06_Is,EVA.down,ne_eq,seval]
theorem vref06_Arity {D F n:Nat}{args:List AV}{h:AHeap}:OV F (D+1) 103 args h n (n+1)=evW 2 (OV F D) F a103 (frzs (frz true 0 (bif AV.nors args then [] else h) 8) args) (AV.nors args) (hglb h 2):=evV_frozen rfl
theorem lref06_CheckL0 (D:Nat)(hD:0≤D)(F:Nat)(v0:List Int)(v1 v2:Int)(K:AE→AS→Option Res):∀ (f:Nat) (v3:Int) (s:AS),s.keep [1,2,7,8] []=some ⟨[(1,.vs v0.length .unk (enc c3 v0)),(2,.i .i64 v1),(7,.i .i64 v2),(8,.i .i64 v3)],[],[(0,tab64)],2⟩→
 evLoop (evC (OV F D) 2 F a91L0) f s K=match Pref06_CheckL0 v0 v1 v2 f v3 with|none=>none|some (.inl _)=>K .ret ⟨[(6,.i .i64 (61))],[],[(0,tab64)],2⟩|some (.inr _)=>K (.ex 2) ⟨[(1,.vs v0.length .unk (enc c3 v0)),(2,.i .i64 v1),(7,.i .i64 v2)],[],[(0,tab64)],2⟩:=by
 intro f
 induction f with
 |zero=>intro v3 s hs;simp only [evLoop,Pref06_CheckL0]
 |succ f ih=>
 intro v3 s hs
 obtain ⟨k0,hk,hn,he,hr⟩:=@lk_all (OV F (D)) 2 F a91L0 f K
 rw [loop_succ,hk,a91L0,runC_cut,hs]
 clear hs
 simp only [Pref06_CheckL0]
 clear hk
 by_cases h1:v3<v2
 rcases ixo (@pk_c3 v0 v2) with h2|⟨x1,h2⟩
 rotate_left
 rcases ixo (@pk_c3 v0 v3) with h3|⟨x2,h3⟩
 rotate_left
 by_cases h4:x1=x2
 replace h4:=eq_true h4
 all_goals simp -implicitDefEqProofs only [*,-ih,EVA.down,ne_eq,seval]
 all_goals exact ih _ _ (by simp only [*,-ih,EVA.down,ne_eq,seval])
theorem lref06_CheckL1 (D:Nat)(hD:0≤D)(F:Nat)(v0:List Int)(v1:Int)(K:AE→AS→Option Res):∀ (f:Nat) (v2:Int) (s:AS),s.keep [1,2,7] []=some ⟨[(1,.vs v0.length .unk (enc c3 v0)),(2,.i .i64 v1),(7,.i .i64 v2)],[],[(0,tab64)],2⟩→
 evLoop (evC (OV F D) 2 F a91L1) f s K=match Pref06_CheckL1 F v0 v1 f v2 with|none=>none|some (.inl _)=>K .ret ⟨[(6,.i .i64 (61))],[],[(0,tab64)],2⟩|some (.inr _)=>K (.ex 0) ⟨[],[],[(0,tab64)],2⟩:=by
 intro f
 induction f with
 |zero=>intro v2 s hs;simp only [evLoop,Pref06_CheckL1]
 |succ f ih=>
 intro v2 s hs
 obtain ⟨k0,hk,hn,he,hr⟩:=@lk_all (OV F (D)) 2 F a91L1 f K
 rw [loop_succ,hk,a91L1,runC_cut,hs]
 clear hs
 simp only [Pref06_CheckL1]
 clear hk
 by_cases h1:v2<(v0.length:Int)
 rcases ixo (@pk_c3 v0 v2) with h2|⟨x1,h2⟩
 rotate_left
 by_cases h3:x1<0
 rotate_left
 by_cases h4:x1≥v1
 rotate_left
 simp -implicitDefEqProofs only [*,-ih,runC_loop,EVA.down,ne_eq,seval]
 rw [lref06_CheckL0 (D) (by omega) F v0 v1 v2 _ F 0 _ (by simp only [*,-ih,EVA.down,ne_eq,seval];try rfl)]
 rcases h5:(Pref06_CheckL0 v0 v1 v2 F 0) with _|(_|_)
 all_goals simp -implicitDefEqProofs only [*,-ih,EVA.down,ne_eq,seval]
 all_goals exact ih _ _ (by simp only [*,-ih,EVA.down,ne_eq,seval])
theorem eref06_Check (D:Nat)(hD:2≤D)(F:Nat)(a0:Int)(a1:List Int)(a2:Int)(q:Bool):evW 2 (OV F D) F a91 (some [.i .i64 a0,.vs a1.length .unk (enc c3 a1),.i .i64 a2]) q G0 =
 match Pref06_Check F a0 a1 a2 with|none=>none|some r0=>some (.i .i64 r0,none):=by
 obtain ⟨D,rfl⟩:=dex hD
 have cref06_Is0:=eref06_Is (D+1) (by omega) F
 have cref06_Arity0:=eref06_Arity (D+1) (by omega) F
 rw [evW_some,G0]
 simp only [Pref06_Check]
 rcases h1:((Pref06_Is a0)) with _|_
 rotate_left
 by_cases h2:(a1.length:Int)=(Pref06_Arity a0)
 replace h2:=eq_true h2
 simp -implicitDefEqProofs only [*,a91,vref06_Is,vref06_Arity,runC_loop,EVA.down,ne_eq,seval]
 rw [lref06_CheckL1 (D+2) (by omega) F a1 a2 _ F 0 _ (by simp only [*,a91,vref06_Is,vref06_Arity,EVA.down,ne_eq,seval];try rfl)]
 rcases h3:(Pref06_CheckL1 F a1 a2 F 0) with _|(_|_)
 all_goals simp -implicitDefEqProofs only [*,a91,vref06_Is,vref06_Arity,EVA.down,ne_eq,seval]
theorem vref06_Check {D F n:Nat}{args:List AV}{h:AHeap}:OV F (D+1) 91 args h n (n+1)=evW 2 (OV F D) F a91 (frzs (frz true 0 (bif AV.nors args then [] else h) 8) args) (AV.nors args) (hglb h 2):=evV_frozen rfl
theorem eref06_Clifford (D:Nat)(hD:0≤D)(F:Nat)(a0:Int)(q:Bool):evW 2 (OV F D) F a92 (some [.i .i64 a0]) q G0 =
 some (.b ((Pref06_Clifford a0)),none):=by
 rw [evW_some,G0]
 simp only [Pref06_Clifford]
 by_cases h1:a0≥1
 all_goals simp -implicitDefEqProofs only [*,a92,EVA.down,ne_eq,seval]
theorem vref06_Clifford {D F n:Nat}{args:List AV}{h:AHeap}:OV F (D+1) 92 args h n (n+1)=evW 2 (OV F D) F a92 (frzs (frz true 0 (bif AV.nors args then [] else h) 8) args) (AV.nors args) (hglb h 2):=evV_frozen rfl
theorem eref14_Copy (D:Nat)(hD:0≤D)(F:Nat)(a0_N:Int)(a0_Stab a0_Destab:List Pl)(q:Bool):evW 2 (OV F D) F a17 (some [.agg [.i .i64 a0_N,.vs a0_Stab.length .unk (enc Pl.cells a0_Stab),.vs a0_Destab.length .unk (enc Pl.cells a0_Destab)]]) q G0 =
 match Pref14_Copy a0_N a0_Stab a0_Destab with|none=>none|some (r0,r1,r2)=>some (.agg [.i .i64 r0,.vs r1.length .unk (enc Pl.cells r1),.vs r2.length .unk (enc Pl.cells r2)],none):=by
 rw [evW_some,G0]
 simp only [Pref14_Copy]
 by_cases h1:a0_Stab=[]
 replace h1:=eq_true h1
 by_cases h2:a0_Destab=[]
 replace h2:=eq_true h2
 rotate_left
 by_cases h3:a0_Destab.length*32≤140737488355328
 rotate_left
 rotate_left
 by_cases h4:a0_Stab.length*32≤140737488355328
 by_cases h5:a0_Destab=[]
 replace h5:=eq_true h5
 rotate_left
 by_cases h6:a0_Destab.length*32≤140737488355328
 all_goals simp -implicitDefEqProofs only [*,a17,EVA.down,ne_eq,seval]
theorem vref14_Copy {D F n:Nat}{args:List AV}{h:AHeap}:OV F (D+1) 17 args h n (n+1)=evW 2 (OV F D) F a17 (frzs (frz true 0 (bif AV.nors args then [] else h) 8) args) (AV.nors args) (hglb h 2):=evV_frozen rfl
theorem eref14_Copyo (D:Nat)(hD:0≤D)(F:Nat)(a0_N:Int)(a0_Stab a0_Destab:List Pl)(n:Nat):evX 2 (OV F D) F a17 (some [.agg [.i .i64 a0_N,.vs a0_Stab.length .unk (enc Pl.cells a0_Stab),.vs a0_Destab.length .unk (enc Pl.cells a0_Destab)]]) true G0 n =
 match Pref14_Copy a0_N a0_Stab a0_Destab with|none=>none|some (r0,r1,r2)=>(match ownS Pl.cells 39 4 (.vs 0 .unk []) r1 n with|(w0,g0,n0)=>(match ownS Pl.cells 39 4 (.vs 0 .unk []) r2 n0 with|(w1,g1,n1)=>some (.agg [.i .i64 r0,w0,w1],some (g0++g1,n1)))):=by
 rw [evX_some,G0]
 simp only [Pref14_Copy]
 by_cases h1:a0_Stab=[]
 replace h1:=eq_true h1
 by_cases h2:a0_Destab=[]
 replace h2:=eq_true h2
 rotate_left
 by_cases h3:a0_Destab.length*32≤140737488355328
 rotate_left
 rotate_left
 by_cases h4:a0_Stab.length*32≤140737488355328
 by_cases h5:a0_Destab=[]
 replace h5:=eq_true h5
 rotate_left
 by_cases h6:a0_Destab.length*32≤140737488355328
 all_goals simp -implicitDefEqProofs only [*,a17,EVA.down,ne_eq,seval]
theorem vref14_Copyo {D F n:Nat}{args:List AV}{h:AHeap}:OV F (D+1) 17 args h n n=evX 2 (OV F D) F a17 (frzs (frz true 0 (bif AV.nors args then [] else h) 8) args) (AV.nors args) (hglb h 2) n:=evV_own rfl
theorem eref13_images (D:Nat)(hD:0≤D)(F:Nat)(a0:Int)(q:Bool):evW 2 (OV F D) F a104 (some [.i .i64 a0]) q G0 =
 some (.vs (((Pref13_images a0)).length) .unk (enc c9 ((Pref13_images a0))),none):=by
 rw [evW_some,G0]
 simp only [Pref13_images]
 by_cases h1:a0=1
 replace h1:=eq_true h1
 rotate_left
 by_cases h2:a0=2
 replace h2:=eq_true h2
 rotate_left
 by_cases h3:a0=3
 replace h3:=eq_true h3
 rotate_left
 by_cases h4:a0=4
 replace h4:=eq_true h4
 rotate_left
 by_cases h5:a0=5
 replace h5:=eq_true h5
 rotate_left
 by_cases h6:a0=6
 replace h6:=eq_true h6
 rotate_left
 by_cases h7:a0=7
 replace h7:=eq_true h7
 rotate_left
 by_cases h8:a0=8
 replace h8:=eq_true h8
 rotate_left
 by_cases h9:a0=9
 replace h9:=eq_true h9
 rotate_left
 by_cases h10:a0=10
 replace h10:=eq_true h10
 rotate_left
 by_cases h11:a0=11
 replace h11:=eq_true h11
 rotate_left
 by_cases h12:a0=12
 replace h12:=eq_true h12
 rotate_left
 by_cases h13:a0=13
 replace h13:=eq_true h13
 rotate_left
 by_cases h14:a0=14
 replace h14:=eq_true h14
 rotate_left
 by_cases h15:a0=15
 replace h15:=eq_true h15
 rotate_left
 by_cases h16:a0=16
 replace h16:=eq_true h16
 rotate_left
 by_cases h17:a0=17
 replace h17:=eq_true h17
 all_goals simp -implicitDefEqProofs only [*,a104,EVA.down,ne_eq,seval]
theorem vref13_images {D F n:Nat}{args:List AV}{h:AHeap}:OV F (D+1) 104 args h n (n+1)=evW 2 (OV F D) F a104 (frzs (frz true 0 (bif AV.nors args then [] else h) 8) args) (AV.nors args) (hglb h 2):=evV_frozen rfl
theorem lref13_ThroughL0 (D:Nat)(hD:0≤D)(F:Nat)(v0:List Int)(v1:List ByteArray)(v3:Int)(v4 v5:BitVec 64)(v6 v7:Int)(v8 v9:BitVec 64)(v10 v11 v14:Int)(K:AE→AS→Option Res):∀ (f:Nat) (v2:Int) (v12 v13:BitVec 64) (s:AS),s.keep [2,3,6,8,9,10] [3,6,9]=some ⟨[(2,.vs v0.length .unk (enc c3 v0)),(3,.lp 3 0),(6,.lp 6 0),(8,.vs v1.length .unk (enc c9 v1)),(9,.lp 9 0),(10,.i .i64 v2)],[(3,[.i .i64 v3,.i .u64 (U v4),.i .u64 (U v5),.i .i64 v6]),(6,[.i .i64 v7,.i .u64 (U v8),.i .u64 (U v9),.i .i64 v10]),(9,[.i .i64 v11,.i .u64 (U v12),.i .u64 (U v13),.i .i64 v14])],[(0,tab64)],2⟩→
 evLoop (evC (OV F D) 2 F a93L0) f s K=match Pref13_ThroughL0 v0 v1 v3 v4 v5 v6 v7 v8 v9 v10 v11 v14 f v2 v12 v13 with|none=>none|some (y0,y1)=>K (.ex 0) ⟨[(2,.vs v0.length .unk (enc c3 v0)),(3,.lp 3 0),(6,.lp 6 0),(8,.vs v1.length .unk (enc c9 v1)),(9,.lp 9 0)],[(3,[.i .i64 v3,.i .u64 (U v4),.i .u64 (U v5),.i .i64 v6]),(6,[.i .i64 v7,.i .u64 (U v8),.i .u64 (U v9),.i .i64 v10]),(9,[.i .i64 v11,.i .u64 (U y0),.i .u64 (U y1),.i .i64 v14])],[(0,tab64)],2⟩:=by
 intro f
 induction f with
 |zero=>intro v2 v12 v13 s hs;simp only [evLoop,Pref13_ThroughL0]
 |succ f ih=>
 intro v2 v12 v13 s hs
 obtain ⟨k0,hk,hn,he,hr⟩:=@lk_all (OV F (D)) 2 F a93L0 f K
 rw [loop_succ,hk,a93L0,runC_cut,hs]
 clear hs
 simp only [Pref13_ThroughL0]
 clear hk
 by_cases h1:v2<(v0.length:Int)
 rcases ixo (@pk_c3 v0 v2) with h2|⟨x1,h2⟩
 all_goals simp -implicitDefEqProofs only [*,-ih,EVA.down,ne_eq,seval]
 all_goals exact ih _ _ _ _ (by simp only [*,-ih,EVA.down,ne_eq,seval])
theorem lref13_lettersL0 (D:Nat)(hD:0≤D)(F:Nat)(v0:ByteArray)(v1:List Int)(v3:Int)(v4 v5:BitVec 64)(v6 v7 v10:Int)(K:AE→AS→Option Res):∀ (f:Nat) (v2:Int) (v8 v9:BitVec 64) (s:AS),s.keep [0,2,6,7,8] [6,7]=some ⟨[(0,.s v0),(2,.vs v1.length .unk (enc c3 v1)),(6,.lp 6 0),(7,.lp 7 0),(8,.i .i64 v2)],[(6,[.i .i64 v3,.i .u64 (U v4),.i .u64 (U v5),.i .i64 v6]),(7,[.i .i64 v7,.i .u64 (U v8),.i .u64 (U v9),.i .i64 v10])],[(0,tab64)],2⟩→
 evLoop (evC (OV F D) 2 F a105L0) f s K=match Pref13_lettersL0 v0 v1 v3 v4 v5 v6 v7 v10 f v2 v8 v9 with|none=>none|some (y0,y1)=>K (.ex 0) ⟨[(6,.lp 6 0),(7,.lp 7 0)],[(6,[.i .i64 v3,.i .u64 (U v4),.i .u64 (U v5),.i .i64 v6]),(7,[.i .i64 v7,.i .u64 (U y0),.i .u64 (U y1),.i .i64 v10])],[(0,tab64)],2⟩:=by
 intro f
 induction f with
 |zero=>intro v2 v8 v9 s hs;simp only [evLoop,Pref13_lettersL0]
 |succ f ih=>
 intro v2 v8 v9 s hs
 obtain ⟨k0,hk,hn,he,hr⟩:=@lk_all (OV F (D)) 2 F a105L0 f K
 rw [loop_succ,hk,a105L0,runC_cut,hs]
 clear hs
 simp only [Pref13_lettersL0]
 clear hk
 by_cases h1:v2<(v1.length:Int)
 rcases h2:(bidx v0 (IntKind.i64.wrap (v2+1))) with _|x1
 rotate_left
 by_cases h3:x1=88
 replace h3:=eq_true h3
 rcases ixo (@pk_c3 v1 v2) with h4|⟨x2,h4⟩
 rotate_left
 by_cases h5:x1=90
 replace h5:=eq_true h5
 rotate_left
 by_cases h6:x1=89
 replace h6:=eq_true h6
 rotate_left
 rotate_left
 by_cases h7:x1=89
 replace h7:=eq_true h7
 rcases ixo (@pk_c3 v1 v2) with h8|⟨x3,h8⟩
 rotate_left
 by_cases h9:x1=90
 replace h9:=eq_true h9
 rotate_left
 rotate_left
 by_cases h10:x1=90
 replace h10:=eq_true h10
 rcases ixo (@pk_c3 v1 v2) with h11|⟨x4,h11⟩
 all_goals simp -implicitDefEqProofs only [*,-ih,EVA.down,ne_eq,seval]
 all_goals exact ih _ _ _ _ (by simp only [*,-ih,EVA.down,ne_eq,seval])
theorem eref13_letters (D:Nat)(hD:0≤D)(F:Nat)(a0:ByteArray)(a1:Int)(a2:List Int)(q:Bool):evW 2 (OV F D) F a105 (some [.s a0,.i .i64 a1,.vs a2.length .unk (enc c3 a2)]) q G0 =
 match Pref13_letters F a0 a1 a2 with|none=>none|some (r0,r1,r2,r3)=>some (.agg [.i .i64 r0,.i .u64 (U r1),.i .u64 (U r2),.i .i64 r3],none):=by
 rw [evW_some,G0]
 simp only [Pref13_letters]
 rcases h1:(bidx a0 0) with _|x1
 rotate_left
 by_cases h2:x1=45
 replace h2:=eq_true h2
 simp -implicitDefEqProofs only [*,a105,runC_loop,EVA.down,ne_eq,seval]
 rw [lref13_lettersL0 (D) (by omega) F a0 a2 0 0#64 0#64 0 a1 2 _ F 0 0#64 0#64 _ (by simp only [*,a105,EVA.down,ne_eq,seval];try rfl)]
 rcases h3:(Pref13_lettersL0 a0 a2 0 0#64 0#64 0 a1 2 F 0 0#64 0#64) with _|⟨y2,y3⟩
 rotate_left
 rotate_left
 simp -implicitDefEqProofs only [*,a105,runC_loop,EVA.down,ne_eq,seval]
 rw [lref13_lettersL0 (D) (by omega) F a0 a2 0 0#64 0#64 0 a1 0 _ F 0 0#64 0#64 _ (by simp only [*,a105,EVA.down,ne_eq,seval];try rfl)]
 rcases h4:(Pref13_lettersL0 a0 a2 0 0#64 0#64 0 a1 0 F 0 0#64 0#64) with _|⟨y4,y5⟩
 all_goals simp -implicitDefEqProofs only [*,a105,EVA.down,ne_eq,seval]
theorem vref13_letters {D F n:Nat}{args:List AV}{h:AHeap}:OV F (D+1) 105 args h n (n+1)=evW 2 (OV F D) F a105 (frzs (frz true 0 (bif AV.nors args then [] else h) 8) args) (AV.nors args) (hglb h 2):=evV_frozen rfl
theorem eref13_Letter (D:Nat)(hD:2≤D)(F:Nat)(a0_N:Int)(a0_X a0_Z:BitVec 64)(a0_Phase a1:Int)(q:Bool):evW 2 (OV F D) F a101 (some [.agg [.i .i64 a0_N,.i .u64 (U a0_X),.i .u64 (U a0_Z),.i .i64 a0_Phase],.i .i64 a1]) q G0 =
 match Pref13_Letter F a0_N a0_X a0_Z a0_Phase a1 with|none=>none|some r0=>some (.i .u8 (r0),none):=by
 obtain ⟨D,rfl⟩:=dex hD
 have cref13_Right0:=eref13_Right (D+1) (by omega) F
 have cref13_bit0:=eref13_bit (D+1) (by omega) F
 rw [evW_some,G0]
 simp only [Pref13_Letter]
 rcases h1:(Pref13_Right F a0_N a0_X a0_Z a0_Phase) with _|r1
 rotate_left
 rcases h2:(r1) with _|_
 rotate_left
 by_cases h3:a1<0
 rotate_left
 by_cases h4:a1≥a0_N
 rotate_left
 by_cases h5:(IntKind.i64.wrap ((IntKind.i64.wrap (2*(Pref13_bit a0_X a1)))+(Pref13_bit a0_Z a1)))=1
 replace h5:=eq_true h5
 rotate_left
 by_cases h6:(IntKind.i64.wrap ((IntKind.i64.wrap (2*(Pref13_bit a0_X a1)))+(Pref13_bit a0_Z a1)))=2
 replace h6:=eq_true h6
 rotate_left
 by_cases h7:(IntKind.i64.wrap ((IntKind.i64.wrap (2*(Pref13_bit a0_X a1)))+(Pref13_bit a0_Z a1)))=3
 replace h7:=eq_true h7
 all_goals simp -implicitDefEqProofs only [*,a101,vref13_Right,vref13_bit,EVA.down,ne_eq,seval]
theorem vref13_Letter {D F n:Nat}{args:List AV}{h:AHeap}:OV F (D+1) 101 args h n (n+1)=evW 2 (OV F D) F a101 (frzs (frz true 0 (bif AV.nors args then [] else h) 8) args) (AV.nors args) (hglb h 2):=evV_frozen rfl
theorem eref13_one (D:Nat)(hD:0≤D)(F:Nat)(a0 a1:Int)(q:Bool):evW 2 (OV F D) F a100 (some [.i .u8 (a0),.i .u8 (a1)]) q G0 =
 some (.i .i64 ((Pref13_one a0 a1)),none):=by
 rw [evW_some,G0]
 simp only [Pref13_one]
 by_cases h1:a0=73
 replace h1:=eq_true h1
 rotate_left
 by_cases h2:a1=73
 replace h2:=eq_true h2
 rotate_left
 by_cases h3:a0=a1
 replace h3:=eq_true h3
 rotate_left
 by_cases h4:a0=88
 replace h4:=eq_true h4
 by_cases h5:a1=89
 replace h5:=eq_true h5
 rotate_left
 by_cases h6:a0=89
 replace h6:=eq_true h6
 by_cases h7:a1=90
 replace h7:=eq_true h7
 rotate_left
 by_cases h8:a0=90
 replace h8:=eq_true h8
 by_cases h9:a1=88
 replace h9:=eq_true h9
 rotate_left
 rotate_left
 rotate_left
 by_cases h10:a0=90
 replace h10:=eq_true h10
 by_cases h11:a1=88
 replace h11:=eq_true h11
 rotate_left
 rotate_left
 rotate_left
 by_cases h12:a0=89
 replace h12:=eq_true h12
 by_cases h13:a1=90
 replace h13:=eq_true h13
 rotate_left
 by_cases h14:a0=90
 replace h14:=eq_true h14
 by_cases h15:a1=88
 replace h15:=eq_true h15
 rotate_left
 rotate_left
 rotate_left
 by_cases h16:a0=90
 replace h16:=eq_true h16
 by_cases h17:a1=88
 replace h17:=eq_true h17
 all_goals simp -implicitDefEqProofs only [*,a100,EVA.down,ne_eq,seval]
theorem vref13_one {D F n:Nat}{args:List AV}{h:AHeap}:OV F (D+1) 100 args h n (n+1)=evW 2 (OV F D) F a100 (frzs (frz true 0 (bif AV.nors args then [] else h) 8) args) (AV.nors args) (hglb h 2):=evV_frozen rfl
theorem lref13_MulL0 (D:Nat)(hD:3≤D)(F:Nat)(v1:Int)(v2 v3:BitVec 64)(v4 v5:Int)(v6 v7:BitVec 64)(v8 v9:Int)(v10 v11:BitVec 64)(v12 v13:Int)(v14 v15:BitVec 64)(K:AE→AS→Option Res):∀ (f:Nat) (v0 v16:Int) (s:AS),s.keep [2,3,4,6,7] [2,3,4,6]=some ⟨[(2,.lp 2 0),(3,.lp 3 0),(4,.lp 4 0),(6,.lp 6 0),(7,.i .i64 v0)],[(2,[.i .i64 v1,.i .u64 (U v2),.i .u64 (U v3),.i .i64 v4]),(3,[.i .i64 v5,.i .u64 (U v6),.i .u64 (U v7),.i .i64 v8]),(4,[.i .i64 v9,.i .u64 (U v10),.i .u64 (U v11),.i .i64 v12]),(6,[.i .i64 v13,.i .u64 (U v14),.i .u64 (U v15),.i .i64 v16])],[(0,tab64)],2⟩→
 evLoop (evC (OV F D) 2 F a90L0) f s K=match Pref13_MulL0 F v1 v2 v3 v4 v5 v6 v7 v8 v9 v10 v11 v12 v13 v14 v15 f v0 v16 with|none=>none|some (y0)=>K (.ex 0) ⟨[(4,.lp 4 0),(6,.lp 6 0)],[(4,[.i .i64 v9,.i .u64 (U v10),.i .u64 (U v11),.i .i64 v12]),(6,[.i .i64 v13,.i .u64 (U v14),.i .u64 (U v15),.i .i64 y0])],[(0,tab64)],2⟩:=by
 obtain ⟨D,rfl⟩:=dex hD
 have cref13_one0:=eref13_one (D+2) (by omega) F
 have cref13_Letter0:=eref13_Letter (D+2) (by omega) F
 intro f
 induction f with
 |zero=>intro v0 v16 s hs;simp only [evLoop,Pref13_MulL0]
 |succ f ih=>
 intro v0 v16 s hs
 obtain ⟨k0,hk,hn,he,hr⟩:=@lk_all (OV F (D+3)) 2 F a90L0 f K
 rw [loop_succ,hk,a90L0,runC_cut,hs]
 clear hs
 simp only [Pref13_MulL0]
 clear hk
 by_cases h1:v0<v1
 rcases h2:(Pref13_Letter F v1 v2 v3 v4 v0) with _|r1
 rotate_left
 rcases h3:(Pref13_Letter F v5 v6 v7 v8 v0) with _|r2
 all_goals simp -implicitDefEqProofs only [*,-ih,vref13_one,vref13_Letter,EVA.down,ne_eq,seval]
 all_goals exact ih _ _ _ (by simp only [*,-ih,vref13_one,vref13_Letter,EVA.down,ne_eq,seval])
theorem eref13_Mul (D:Nat)(hD:3≤D)(F:Nat)(a0_N:Int)(a0_X a0_Z:BitVec 64)(a0_Phase a1_N:Int)(a1_X a1_Z:BitVec 64)(a1_Phase:Int)(q:Bool):evW 2 (OV F D) F a90 (some [.agg [.i .i64 a0_N,.i .u64 (U a0_X),.i .u64 (U a0_Z),.i .i64 a0_Phase],.agg [.i .i64 a1_N,.i .u64 (U a1_X),.i .u64 (U a1_Z),.i .i64 a1_Phase]]) q G0 =
 match Pref13_Mul F a0_N a0_X a0_Z a0_Phase a1_N a1_X a1_Z a1_Phase with|none=>none|some (r0,r1,r2,r3,r4)=>some (.tup [.agg [.i .i64 r0,.i .u64 (U r1),.i .u64 (U r2),.i .i64 r3],.i .i64 r4],none):=by
 obtain ⟨D,rfl⟩:=dex hD
 have cref13_Right0:=eref13_Right (D+2) (by omega) F
 rw [evW_some,G0]
 simp only [Pref13_Mul]
 rcases h1:(Pref13_Right F a0_N a0_X a0_Z a0_Phase) with _|r1
 rotate_left
 rcases h2:(r1) with _|_
 rotate_left
 rcases h3:(Pref13_Right F a1_N a1_X a1_Z a1_Phase) with _|r2
 rotate_left
 rcases h4:(r2) with _|_
 rotate_left
 by_cases h5:a0_N=a1_N
 replace h5:=eq_true h5
 simp -implicitDefEqProofs only [*,a90,vref13_Right,runC_loop,EVA.down,ne_eq,seval]
 rw [lref13_MulL0 (D+3) (by omega) F a0_N a0_X a0_Z a0_Phase a1_N a1_X a1_Z a1_Phase 0 0#64 0#64 0 a0_N (a0_X ^^^ a1_X) (a0_Z ^^^ a1_Z) _ F 0 (IntKind.i64.wrap (a0_Phase+a1_Phase)) _ (by simp only [*,a90,vref13_Right,EVA.down,ne_eq,seval];try rfl)]
 rcases h6:(Pref13_MulL0 F a0_N a0_X a0_Z a0_Phase a1_N a1_X a1_Z a1_Phase 0 0#64 0#64 0 a0_N (a0_X ^^^ a1_X) (a0_Z ^^^ a1_Z) F 0 (IntKind.i64.wrap (a0_Phase+a1_Phase))) with _|y3
 all_goals simp -implicitDefEqProofs only [*,a90,vref13_Right,EVA.down,ne_eq,seval]
theorem vref13_Mul {D F n:Nat}{args:List AV}{h:AHeap}:OV F (D+1) 90 args h n (n+1)=evW 2 (OV F D) F a90 (frzs (frz true 0 (bif AV.nors args then [] else h) 8) args) (AV.nors args) (hglb h 2):=evV_frozen rfl
theorem lref13_ThroughL1 (D:Nat)(hD:4≤D)(F:Nat)(v0:List Int)(v1:List ByteArray)(v3:Int)(v4 v5:BitVec 64)(v6 v7:Int)(v8 v9:BitVec 64)(v10:Int)(K:AE→AS→Option Res):∀ (f:Nat) (v2 v11:Int) (v12 v13:BitVec 64) (v14:Int) (s:AS),s.keep [2,3,6,8,9,11] [3,6,9]=some ⟨[(2,.vs v0.length .unk (enc c3 v0)),(3,.lp 3 0),(6,.lp 6 0),(8,.vs v1.length .unk (enc c9 v1)),(9,.lp 9 0),(11,.i .i64 v2)],[(3,[.i .i64 v3,.i .u64 (U v4),.i .u64 (U v5),.i .i64 v6]),(6,[.i .i64 v7,.i .u64 (U v8),.i .u64 (U v9),.i .i64 v10]),(9,[.i .i64 v11,.i .u64 (U v12),.i .u64 (U v13),.i .i64 v14])],[(0,tab64)],2⟩→
 evLoop (evC (OV F D) 2 F a93L1) f s K=match Pref13_ThroughL1 F v0 v1 v3 v4 v5 v6 v7 v8 v9 v10 f v2 v11 v12 v13 v14 with|none=>none|some (y0,y1,y2,y3)=>K (.ex 2) ⟨[(6,.lp 6 0),(9,.lp 9 0)],[(6,[.i .i64 v7,.i .u64 (U v8),.i .u64 (U v9),.i .i64 v10]),(9,[.i .i64 y0,.i .u64 (U y1),.i .u64 (U y2),.i .i64 y3])],[(0,tab64)],2⟩:=by
 obtain ⟨D,rfl⟩:=dex hD
 have cref13_bit0:=eref13_bit (D+3) (by omega) F
 have cref13_Mul0:=eref13_Mul (D+3) (by omega) F
 have cref13_letters0:=eref13_letters (D+3) (by omega) F
 intro f
 induction f with
 |zero=>intro v2 v11 v12 v13 v14 s hs;simp only [evLoop,Pref13_ThroughL1]
 |succ f ih=>
 intro v2 v11 v12 v13 v14 s hs
 obtain ⟨k0,hk,hn,he,hr⟩:=@lk_all (OV F (D+4)) 2 F a93L1 f K
 rw [loop_succ,hk,a93L1,runC_cut,hs]
 clear hs
 simp only [Pref13_ThroughL1]
 clear hk
 by_cases h1:v2<(v0.length:Int)
 rcases ixo (@pk_c3 v0 v2) with h2|⟨x1,h2⟩
 rotate_left
 by_cases h3:(Pref13_bit v4 x1)=1
 replace h3:=eq_true h3
 rcases ixo (@pk_c9 v1 (IntKind.i64.wrap (2*v2))) with h4|⟨x2,h4⟩
 rotate_left
 rcases h5:(Pref13_letters F x2 v3 v0) with _|⟨r3,r4,r5,r6⟩
 rotate_left
 rcases h6:(Pref13_Mul F v11 v12 v13 v14 r3 r4 r5 r6) with _|⟨r7,r8,r9,r10,r11⟩
 rotate_left
 by_cases h7:(Pref13_bit v5 x1)=1
 replace h7:=eq_true h7
 rcases ixo (@pk_c9 v1 (IntKind.i64.wrap ((IntKind.i64.wrap (2*v2))+1))) with h8|⟨x12,h8⟩
 rotate_left
 rcases h9:(Pref13_letters F x12 v3 v0) with _|⟨r13,r14,r15,r16⟩
 rotate_left
 rcases h10:(Pref13_Mul F r7 r8 r9 r10 r13 r14 r15 r16) with _|⟨r17,r18,r19,r20,r21⟩
 rotate_left
 rotate_left
 rotate_left
 by_cases h11:(Pref13_bit v5 x1)=1
 replace h11:=eq_true h11
 rcases ixo (@pk_c9 v1 (IntKind.i64.wrap ((IntKind.i64.wrap (2*v2))+1))) with h12|⟨x22,h12⟩
 rotate_left
 rcases h13:(Pref13_letters F x22 v3 v0) with _|⟨r23,r24,r25,r26⟩
 rotate_left
 rcases h14:(Pref13_Mul F v11 v12 v13 v14 r23 r24 r25 r26) with _|⟨r27,r28,r29,r30,r31⟩
 all_goals simp -implicitDefEqProofs only [*,-ih,vref13_bit,vref13_Mul,vref13_letters,EVA.down,ne_eq,seval]
 all_goals exact ih _ _ _ _ _ _ (by simp only [*,-ih,vref13_bit,vref13_Mul,vref13_letters,EVA.down,ne_eq,seval])
theorem eref13_Through (D:Nat)(hD:4≤D)(F:Nat)(a0_N:Int)(a0_X a0_Z:BitVec 64)(a0_Phase a1:Int)(a2:List Int)(q:Bool):evW 2 (OV F D) F a93 (some [.agg [.i .i64 a0_N,.i .u64 (U a0_X),.i .u64 (U a0_Z),.i .i64 a0_Phase],.i .i64 a1,.vs a2.length .unk (enc c3 a2)]) q G0 =
 match Pref13_Through F a0_N a0_X a0_Z a0_Phase a1 a2 with|none=>none|some (r0,r1,r2,r3,r4)=>some (.tup [.agg [.i .i64 r0,.i .u64 (U r1),.i .u64 (U r2),.i .i64 r3],.i .i64 r4],none):=by
 obtain ⟨D,rfl⟩:=dex hD
 have cref13_Right0:=eref13_Right (D+3) (by omega) F
 have cref06_Check0:=eref06_Check (D+3) (by omega) F
 have cref13_images0:=eref13_images (D+3) (by omega) F
 rw [evW_some,G0]
 simp only [Pref13_Through]
 rcases h1:(Pref13_Right F a0_N a0_X a0_Z a0_Phase) with _|r1
 rotate_left
 rcases h2:(r1) with _|_
 rotate_left
 by_cases h3:((((Pref13_images a1)).length:Int))=0
 replace h3:=eq_true h3
 rotate_left
 rcases h4:(Pref06_Check F a1 a2 a0_N) with _|r2
 rotate_left
 by_cases h5:r2=0
 replace h5:=eq_true h5
 simp -implicitDefEqProofs only [*,a93,vref13_Right,vref06_Check,vref13_images,runC_loop,EVA.down,ne_eq,seval]
 rw [lref13_ThroughL0 (D+4) (by omega) F a2 (Pref13_images a1) a0_N a0_X a0_Z a0_Phase 0 0#64 0#64 0 a0_N a0_Phase _ F 0 a0_X a0_Z _ (by simp only [*,a93,vref13_Right,vref06_Check,vref13_images,EVA.down,ne_eq,seval];try rfl)]
 rcases h6:(Pref13_ThroughL0 a2 (Pref13_images a1) a0_N a0_X a0_Z a0_Phase 0 0#64 0#64 0 a0_N a0_Phase F 0 a0_X a0_Z) with _|⟨y3,y4⟩
 rotate_left
 simp -implicitDefEqProofs only [*,a93,vref13_Right,vref06_Check,vref13_images,runC_loop,EVA.down,ne_eq,seval]
 rw [lref13_ThroughL1 (D+4) (by omega) F a2 (Pref13_images a1) a0_N a0_X a0_Z a0_Phase 0 0#64 0#64 0 _ F 0 a0_N y3 y4 a0_Phase _ (by simp only [*,a93,vref13_Right,vref06_Check,vref13_images,EVA.down,ne_eq,seval];try rfl)]
 rcases h7:(Pref13_ThroughL1 F a2 (Pref13_images a1) a0_N a0_X a0_Z a0_Phase 0 0#64 0#64 0 F 0 a0_N y3 y4 a0_Phase) with _|⟨y5,y6,y7,y8⟩
 all_goals simp -implicitDefEqProofs only [*,a93,vref13_Right,vref06_Check,vref13_images,EVA.down,ne_eq,seval]
theorem vref13_Through {D F n:Nat}{args:List AV}{h:AHeap}:OV F (D+1) 93 args h n (n+1)=evW 2 (OV F D) F a93 (frzs (frz true 0 (bif AV.nors args then [] else h) 8) args) (AV.nors args) (hglb h 2):=evV_frozen rfl
theorem lref14_GateL0 (D:Nat)(hD:5≤D)(F:Nat)(v0:Int)(v1:List Int)(v2 v3:Int)(v4 v5:List Pl)(v6 v7:Int)(v8 v9:List Pl)(K:AE→AS→Option Res):∀ (f:Nat) (s:AS),s.keepG 2 [1,2,3,6,9,10] [3,6,9]=some ⟨[(1,.i .i64 v0),(2,.vs v1.length .unk (enc c3 v1)),(3,.lp 3 0),(6,.lp 6 0),(9,.lp 9 0),(10,.i .i64 v2)],[(3,[.i .i64 v3,.vs v4.length .unk (enc Pl.cells v4),.vs v5.length .unk (enc Pl.cells v5)]),(6,[.i .i64 v6,.sl none 0 (.ex 0),.sl none 0 (.ex 0)]),(9,[.i .i64 v7,.vs v8.length .unk (enc Pl.cells v8),.vs v9.length .unk (enc Pl.cells v9)])],[(0,tab64)],2⟩→
 evLoop (evC (OV F D) 2 F a65L0) f s K=match Pref14_GateL0 F v0 v1 v2 v3 v4 v5 v6 v7 v8 v9 f with|none=>none|some (_)=>K (.ex 0) ⟨[(6,.lp 6 0),(9,.lp 9 0)],[(6,[.i .i64 v6,.sl none 0 (.ex 0),.sl none 0 (.ex 0)]),(9,[.i .i64 v7,.vs v8.length .unk (enc Pl.cells v8),.vs v9.length .unk (enc Pl.cells v9)])],[(0,tab64)],2⟩:=by
 obtain ⟨D,rfl⟩:=dex hD
 have cref13_Through0:=eref13_Through (D+4) (by omega) F
 intro f
 induction f with
 |zero=>intro s hs;simp only [evLoop,Pref14_GateL0]
 |succ f ih=>
 intro s hs
 obtain ⟨k0,hk,hn,he,hr⟩:=@lk_all (OV F (D+5)) 2 F a65L0 f K
 rw [loop_succ,hk,a65L0,runC_cutg,hs]
 clear hs
 simp only [Pref14_GateL0]
 clear hk
 by_cases h1:v2<v3
 rcases ixo (@pk_Pl_cells v4 v2) with h2|⟨x1,h2⟩
 rotate_left
 rcases h3:(Pref13_Through F x1.N x1.X x1.Z x1.Ph v0 v1) with _|⟨r2,r3,r4,r5,r6⟩
 rotate_left
 rcases ixo (@pk_Pl_cells v8 v2) with h4|⟨x7,h4⟩
 all_goals simp -implicitDefEqProofs only [*,-ih,vref13_Through,EVA.down,ne_eq,seval]
theorem lref14_GateL1 (D:Nat)(hD:5≤D)(F:Nat)(v0:Int)(v1:List Int)(v2 v3:Int)(v4 v5:List Pl)(v6 v7:Int)(v8 v9:List Pl)(K:AE→AS→Option Res):∀ (f:Nat) (s:AS),s.keepG 2 [1,2,3,6,9,10] [3,6,9]=some ⟨[(1,.i .i64 v0),(2,.vs v1.length .unk (enc c3 v1)),(3,.lp 3 0),(6,.lp 6 0),(9,.lp 9 0),(10,.i .i64 v2)],[(3,[.i .i64 v3,.vs v4.length .unk (enc Pl.cells v4),.vs v5.length .unk (enc Pl.cells v5)]),(6,[.i .i64 v6,.sl none 0 (.ex 0),.sl none 0 (.ex 0)]),(9,[.i .i64 v7,.vs v8.length .unk (enc Pl.cells v8),.sl (some (2,0)) v9.length .op])],[(2,⟨true,true,39,4,enc Pl.cells v9⟩),(0,tab64)],3⟩→
 evLoop (evC (OV F D) 2 F a65L0) f s K=match Pref14_GateL1 F v0 v1 v2 v3 v4 v5 v6 v7 v8 v9 f with|none=>none|some (_)=>K (.ex 0) ⟨[(6,.lp 6 0),(9,.lp 9 0)],[(6,[.i .i64 v6,.sl none 0 (.ex 0),.sl none 0 (.ex 0)]),(9,[.i .i64 v7,.vs v8.length .unk (enc Pl.cells v8),.sl (some (2,0)) v9.length .op])],[(2,⟨true,true,39,4,enc Pl.cells v9⟩),(0,tab64)],3⟩:=by
 obtain ⟨D,rfl⟩:=dex hD
 have cref13_Through0:=eref13_Through (D+4) (by omega) F
 intro f
 induction f with
 |zero=>intro s hs;simp only [evLoop,Pref14_GateL1]
 |succ f ih=>
 intro s hs
 obtain ⟨k0,hk,hn,he,hr⟩:=@lk_all (OV F (D+5)) 2 F a65L0 f K
 rw [loop_succ,hk,a65L0,runC_cutg,hs]
 clear hs
 simp only [Pref14_GateL1]
 clear hk
 by_cases h1:v2<v3
 rcases ixo (@pk_Pl_cells v4 v2) with h2|⟨x1,h2⟩
 rotate_left
 rcases h3:(Pref13_Through F x1.N x1.X x1.Z x1.Ph v0 v1) with _|⟨r2,r3,r4,r5,r6⟩
 rotate_left
 rcases ixo (@pk_Pl_cells v8 v2) with h4|⟨x7,h4⟩
 all_goals simp -implicitDefEqProofs only [*,-ih,vref13_Through,EVA.down,ne_eq,seval]
theorem lref14_GateL2 (D:Nat)(hD:5≤D)(F:Nat)(v0:Int)(v1:List Int)(v2 v3:Int)(v4 v5:List Pl)(v6 v7:Int)(v8 v9:List Pl)(K:AE→AS→Option Res):∀ (f:Nat) (s:AS),s.keepG 2 [1,2,3,6,9,10] [3,6,9]=some ⟨[(1,.i .i64 v0),(2,.vs v1.length .unk (enc c3 v1)),(3,.lp 3 0),(6,.lp 6 0),(9,.lp 9 0),(10,.i .i64 v2)],[(3,[.i .i64 v3,.vs v4.length .unk (enc Pl.cells v4),.vs v5.length .unk (enc Pl.cells v5)]),(6,[.i .i64 v6,.sl none 0 (.ex 0),.sl none 0 (.ex 0)]),(9,[.i .i64 v7,.sl (some (2,0)) v9.length .op,.vs v8.length .unk (enc Pl.cells v8)])],[(2,⟨true,true,39,4,enc Pl.cells v9⟩),(0,tab64)],3⟩→
 evLoop (evC (OV F D) 2 F a65L0) f s K=match Pref14_GateL2 F v0 v1 v2 v3 v4 v5 v6 v7 v8 v9 f with|none=>none|some (_)=>K (.ex 0) ⟨[(6,.lp 6 0),(9,.lp 9 0)],[(6,[.i .i64 v6,.sl none 0 (.ex 0),.sl none 0 (.ex 0)]),(9,[.i .i64 v7,.sl (some (2,0)) v9.length .op,.vs v8.length .unk (enc Pl.cells v8)])],[(2,⟨true,true,39,4,enc Pl.cells v9⟩),(0,tab64)],3⟩:=by
 obtain ⟨D,rfl⟩:=dex hD
 have cref13_Through0:=eref13_Through (D+4) (by omega) F
 intro f
 induction f with
 |zero=>intro s hs;simp only [evLoop,Pref14_GateL2]
 |succ f ih=>
 intro s hs
 obtain ⟨k0,hk,hn,he,hr⟩:=@lk_all (OV F (D+5)) 2 F a65L0 f K
 rw [loop_succ,hk,a65L0,runC_cutg,hs]
 clear hs
 simp only [Pref14_GateL2]
 clear hk
 by_cases h1:v2<v3
 rcases ixo (@pk_Pl_cells v4 v2) with h2|⟨x1,h2⟩
 rotate_left
 rcases h3:(Pref13_Through F x1.N x1.X x1.Z x1.Ph v0 v1) with _|⟨r2,r3,r4,r5,r6⟩
 rotate_left
 rcases ixo (@pk_Pl_cells v9 v2) with h4|⟨x7,h4⟩
 rotate_left
 have h5:v2.toNat*4+4≤v9.length*4:=by have:=(idx_some h4.1).2.1;omega
 have h6:splice (enc Pl.cells v9) (v2.toNat*4) [.i .i64 r2,.i .u64 (U r3),.i .u64 (U r4),.i .i64 r5]=enc Pl.cells ((v9).set v2.toNat (⟨r2,r3,r4,r5⟩:Pl)):=own_put len_Pl_cells h4.1 (⟨r2,r3,r4,r5⟩:Pl)
 rcases ixo (@pk_Pl_cells v5 v2) with h7|⟨x8,h7⟩
 rotate_left
 rcases h8:(Pref13_Through F x8.N x8.X x8.Z x8.Ph v0 v1) with _|⟨r9,r10,r11,r12,r13⟩
 rotate_left
 rcases ixo (@pk_Pl_cells v8 v2) with h9|⟨x14,h9⟩
 all_goals simp -implicitDefEqProofs only [*,-ih,vref13_Through,EVA.down,ne_eq,seval]
theorem lref14_GateL3 (D:Nat)(hD:5≤D)(F:Nat)(v0:Int)(v1:List Int)(v3:Int)(v4 v5:List Pl)(v6 v7:Int)(K:AE→AS→Option Res):∀ (f:Nat) (v2:Int) (v8 v9:List Pl) (s:AS),s.keepG 2 [1,2,3,6,9,10] [3,6,9]=some ⟨[(1,.i .i64 v0),(2,.vs v1.length .unk (enc c3 v1)),(3,.lp 3 0),(6,.lp 6 0),(9,.lp 9 0),(10,.i .i64 v2)],[(3,[.i .i64 v3,.vs v4.length .unk (enc Pl.cells v4),.vs v5.length .unk (enc Pl.cells v5)]),(6,[.i .i64 v6,.sl none 0 (.ex 0),.sl none 0 (.ex 0)]),(9,[.i .i64 v7,.sl (some (2,0)) v8.length .op,.sl (some (3,0)) v9.length .op])],[(2,⟨true,true,39,4,enc Pl.cells v8⟩),(3,⟨true,true,39,4,enc Pl.cells v9⟩),(0,tab64)],4⟩→
 evLoop (evC (OV F D) 2 F a65L0) f s K=match Pref14_GateL3 F v0 v1 v3 v4 v5 v6 v7 f v2 v8 v9 with|none=>none|some (y0,y1)=>K (.ex 0) ⟨[(6,.lp 6 0),(9,.lp 9 0)],[(6,[.i .i64 v6,.sl none 0 (.ex 0),.sl none 0 (.ex 0)]),(9,[.i .i64 v7,.sl (some (2,0)) y0.length .op,.sl (some (3,0)) y1.length .op])],[(2,⟨true,true,39,4,enc Pl.cells y0⟩),(3,⟨true,true,39,4,enc Pl.cells y1⟩),(0,tab64)],4⟩:=by
 obtain ⟨D,rfl⟩:=dex hD
 have cref13_Through0:=eref13_Through (D+4) (by omega) F
 intro f
 induction f with
 |zero=>intro v2 v8 v9 s hs;simp only [evLoop,Pref14_GateL3]
 |succ f ih=>
 intro v2 v8 v9 s hs
 obtain ⟨k0,hk,hn,he,hr⟩:=@lk_all (OV F (D+5)) 2 F a65L0 f K
 rw [loop_succ,hk,a65L0,runC_cutg,hs]
 clear hs
 simp only [Pref14_GateL3]
 clear hk
 by_cases h1:v2<v3
 rcases ixo (@pk_Pl_cells v4 v2) with h2|⟨x1,h2⟩
 rotate_left
 rcases h3:(Pref13_Through F x1.N x1.X x1.Z x1.Ph v0 v1) with _|⟨r2,r3,r4,r5,r6⟩
 rotate_left
 rcases ixo (@pk_Pl_cells v8 v2) with h4|⟨x7,h4⟩
 rotate_left
 have h5:v2.toNat*4+4≤v8.length*4:=by have:=(idx_some h4.1).2.1;omega
 have h6:splice (enc Pl.cells v8) (v2.toNat*4) [.i .i64 r2,.i .u64 (U r3),.i .u64 (U r4),.i .i64 r5]=enc Pl.cells ((v8).set v2.toNat (⟨r2,r3,r4,r5⟩:Pl)):=own_put len_Pl_cells h4.1 (⟨r2,r3,r4,r5⟩:Pl)
 rcases ixo (@pk_Pl_cells v5 v2) with h7|⟨x8,h7⟩
 rotate_left
 rcases h8:(Pref13_Through F x8.N x8.X x8.Z x8.Ph v0 v1) with _|⟨r9,r10,r11,r12,r13⟩
 rotate_left
 rcases ixo (@pk_Pl_cells v9 v2) with h9|⟨x14,h9⟩
 rotate_left
 have h10:v2.toNat*4+4≤v9.length*4:=by have:=(idx_some h9.1).2.1;omega
 have h11:splice (enc Pl.cells v9) (v2.toNat*4) [.i .i64 r9,.i .u64 (U r10),.i .u64 (U r11),.i .i64 r12]=enc Pl.cells ((v9).set v2.toNat (⟨r9,r10,r11,r12⟩:Pl)):=own_put len_Pl_cells h9.1 (⟨r9,r10,r11,r12⟩:Pl)
 all_goals simp -implicitDefEqProofs only [*,-ih,vref13_Through,EVA.down,ne_eq,seval]
 all_goals exact ih _ _ _ _ (by simp only [*,-ih,vref13_Through,EVA.down,ne_eq,seval])
theorem eref14_Gate (D:Nat)(hD:5≤D)(F:Nat)(a0_N:Int)(a0_Stab a0_Destab:List Pl)(a1:Int)(a2:List Int)(q:Bool):evW 2 (OV F D) F a65 (some [.agg [.i .i64 a0_N,.vs a0_Stab.length .unk (enc Pl.cells a0_Stab),.vs a0_Destab.length .unk (enc Pl.cells a0_Destab)],.i .i64 a1,.vs a2.length .unk (enc c3 a2)]) q G0 =
 match Pref14_Gate F a0_N a0_Stab a0_Destab a1 a2 with|none=>none|some (r0,r1,r2,r3)=>some (.tup [.agg [.i .i64 r0,.vs r1.length .unk (enc Pl.cells r1),.vs r2.length .unk (enc Pl.cells r2)],.i .i64 r3],none):=by
 obtain ⟨D,rfl⟩:=dex hD
 have cref14_Right0:=eref14_Right (D+4) (by omega) F
 have cref14_Copyo0:=eref14_Copyo (D+4) (by omega) F
 have cref06_Check0:=eref06_Check (D+4) (by omega) F
 have cref06_Clifford0:=eref06_Clifford (D+4) (by omega) F
 rw [evW_some,G0]
 simp only [Pref14_Gate]
 rcases h1:(Pref14_Right F a0_N a0_Stab a0_Destab) with _|r1
 rotate_left
 rcases h2:(r1) with _|_
 rotate_left
 rcases h3:(Pref06_Check F a1 a2 a0_N) with _|r2
 rotate_left
 by_cases h4:r2=0
 replace h4:=eq_true h4
 rcases h5:((Pref06_Clifford a1)) with _|_
 rotate_left
 rcases h6:(Pref14_Copy a0_N a0_Stab a0_Destab) with _|⟨r3,r4,r5⟩
 rotate_left
 by_cases h7:r4=[]
 replace h7:=eq_true h7
 by_cases h8:r5=[]
 replace h8:=eq_true h8
 simp -implicitDefEqProofs only [*,a65,vref14_Right,vref14_Copyo,vref06_Check,vref06_Clifford,runC_loop,EVA.down,ne_eq,seval]
 rw [lref14_GateL0 (D+5) (by omega) F a1 a2 0 a0_N a0_Stab a0_Destab 0 r3 ([]) ([]) _ F  _ (by simp only [*,a65,vref14_Right,vref14_Copyo,vref06_Check,vref06_Clifford,EVA.down,ne_eq,seval];try rfl)]
 rcases h9:(Pref14_GateL0 F a1 a2 0 a0_N a0_Stab a0_Destab 0 r3 ([]) ([]) F) with _|_
 rotate_left
 rotate_left
 simp -implicitDefEqProofs only [*,a65,vref14_Right,vref14_Copyo,vref06_Check,vref06_Clifford,runC_loop,EVA.down,ne_eq,seval]
 rw [lref14_GateL1 (D+5) (by omega) F a1 a2 0 a0_N a0_Stab a0_Destab 0 r3 ([]) r5 _ F  _ (by simp only [*,a65,vref14_Right,vref14_Copyo,vref06_Check,vref06_Clifford,EVA.down,ne_eq,seval];try rfl)]
 rcases h10:(Pref14_GateL1 F a1 a2 0 a0_N a0_Stab a0_Destab 0 r3 ([]) r5 F) with _|_
 rotate_left
 rotate_left
 by_cases h11:r5=[]
 replace h11:=eq_true h11
 simp -implicitDefEqProofs only [*,a65,vref14_Right,vref14_Copyo,vref06_Check,vref06_Clifford,runC_loop,EVA.down,ne_eq,seval]
 rw [lref14_GateL2 (D+5) (by omega) F a1 a2 0 a0_N a0_Stab a0_Destab 0 r3 ([]) r4 _ F  _ (by simp only [*,a65,vref14_Right,vref14_Copyo,vref06_Check,vref06_Clifford,EVA.down,ne_eq,seval];try rfl)]
 rcases h12:(Pref14_GateL2 F a1 a2 0 a0_N a0_Stab a0_Destab 0 r3 ([]) r4 F) with _|_
 rotate_left
 rotate_left
 simp -implicitDefEqProofs only [*,a65,vref14_Right,vref14_Copyo,vref06_Check,vref06_Clifford,runC_loop,EVA.down,ne_eq,seval]
 rw [lref14_GateL3 (D+5) (by omega) F a1 a2 a0_N a0_Stab a0_Destab 0 r3 _ F 0 r4 r5 _ (by simp only [*,a65,vref14_Right,vref14_Copyo,vref06_Check,vref06_Clifford,EVA.down,ne_eq,seval];try rfl)]
 rcases h13:(Pref14_GateL3 F a1 a2 a0_N a0_Stab a0_Destab 0 r3 F 0 r4 r5) with _|⟨y6,y7⟩
 rotate_left
 have h13l0:y6.length=r4.length:=by have q:=lref14_GateL3n0_0 F a1 a2 a0_N a0_Stab a0_Destab 0 r3 F 0 r4 r5 y6 y7 h13;simpa only [List.length_set] using q
 have h13t0:=len_facts h13l0
 have h13l1:y7.length=r5.length:=by have q:=lref14_GateL3n0_1 F a1 a2 a0_N a0_Stab a0_Destab 0 r3 F 0 r4 r5 y6 y7 h13;simpa only [List.length_set] using q
 have h13t1:=len_facts h13l1
 all_goals simp -implicitDefEqProofs only [*,a65,vref14_Right,vref14_Copyo,vref06_Check,vref06_Clifford,EVA.down,ne_eq,seval]
theorem vref14_Gate {D F n:Nat}{args:List AV}{h:AHeap}:OV F (D+1) 65 args h n (n+1)=evW 2 (OV F D) F a65 (frzs (frz true 0 (bif AV.nors args then [] else h) 8) args) (AV.nors args) (hglb h 2):=evV_frozen rfl
theorem elaw14_num (D:Nat)(hD:0≤D)(F:Nat)(a0:Int)(q:Bool):evW 2 (OV F D) F a13 (some [.i .i64 a0]) q G0 =
 some (.i .i64 ((Plaw14_num a0)),none):=by
 rw [evW_some,G0]
 skip
 all_goals simp -implicitDefEqProofs (maxSteps:=4000000) only [*,a13,Plaw14_num,EVA.down,ne_eq,seval]
theorem vlaw14_num {D F n:Nat}{args:List AV}{h:AHeap}:OV F (D+1) 13 args h n (n+1)=evW 2 (OV F D) F a13 (frzs (frz true 0 (bif AV.nors args then [] else h) 8) args) (AV.nors args) (hglb h 2):=evV_frozen rfl
theorem lref14_SameRowsL0 (D:Nat)(hD:0≤D)(F:Nat)(v0 v1:List Pl)(K:AE→AS→Option Res):∀ (f:Nat) (v2:Int) (s:AS),s.keep [0,1,5] []=some ⟨[(0,.vs v0.length .unk (enc Pl.cells v0)),(1,.vs v1.length .unk (enc Pl.cells v1)),(5,.i .i64 v2)],[],[(0,tab64)],2⟩→
 evLoop (evC (OV F D) 2 F a41L0) f s K=match Pref14_SameRowsL0 v0 v1 f v2 with|none=>none|some (.inl _)=>K .ret ⟨[(4,.b false)],[],[(0,tab64)],2⟩|some (.inr _)=>K (.ex 0) ⟨[],[],[(0,tab64)],2⟩:=by
 intro f
 induction f with
 |zero=>intro v2 s hs;simp only [evLoop,Pref14_SameRowsL0]
 |succ f ih=>
 intro v2 s hs
 obtain ⟨k0,hk,hn,he,hr⟩:=@lk_all (OV F (D)) 2 F a41L0 f K
 rw [loop_succ,hk,a41L0,runC_cut,hs]
 clear hs
 simp only [Pref14_SameRowsL0]
 clear hk
 by_cases h1:v2<(v0.length:Int)
 rcases ixo (@pk_Pl_cells v0 v2) with h2|⟨x1,h2⟩
 rotate_left
 rcases ixo (@pk_Pl_cells v1 v2) with h3|⟨x2,h3⟩
 rotate_left
 rcases h4:((decide (x1.N=x2.N)&&(decide (x1.X=x2.X)&&(decide (x1.Z=x2.Z)&&decide (x1.Ph=x2.Ph))))) with _|_
 all_goals simp -implicitDefEqProofs only [*,-ih,EVA.down,ne_eq,seval]
 all_goals exact ih _ _ (by simp only [*,-ih,EVA.down,ne_eq,seval])
theorem eref14_SameRows (D:Nat)(hD:0≤D)(F:Nat)(a0 a1:List Pl)(q:Bool):evW 2 (OV F D) F a41 (some [.vs a0.length .unk (enc Pl.cells a0),.vs a1.length .unk (enc Pl.cells a1)]) q G0 =
 match Pref14_SameRows F a0 a1 with|none=>none|some r0=>some (.b r0,none):=by
 rw [evW_some,G0]
 simp only [Pref14_SameRows]
 by_cases h1:(a0.length:Int)=(a1.length:Int)
 replace h1:=eq_true h1
 simp -implicitDefEqProofs only [*,a41,runC_loop,EVA.down,ne_eq,seval]
 rw [lref14_SameRowsL0 (D) (by omega) F a0 a1 _ F 0 _ (by simp only [*,a41,EVA.down,ne_eq,seval];try rfl)]
 rcases h2:(Pref14_SameRowsL0 a0 a1 F 0) with _|(_|_)
 all_goals simp -implicitDefEqProofs only [*,a41,EVA.down,ne_eq,seval]
theorem vref14_SameRows {D F n:Nat}{args:List AV}{h:AHeap}:OV F (D+1) 41 args h n (n+1)=evW 2 (OV F D) F a41 (frzs (frz true 0 (bif AV.nors args then [] else h) 8) args) (AV.nors args) (hglb h 2):=evV_frozen rfl
end Go.Proofs.YtogkkamlmklpkaaDoor.Ab
