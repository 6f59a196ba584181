/- Functions of the program as plain functions, and that the abstract machine's evaluation comes to them. Written by G.py. No condition. -/
import Derived.Test.YtogkkamlmklpkaaDoorH1
set_option maxRecDepth 100000
set_option maxHeartbeats 4000000
set_option linter.unusedVariables false
set_option linter.unusedSimpArgs false
namespace Go.Proofs.YtogkkamlmklpkaaDoor.Ab
open Go
theorem etb_Gate (D:Nat)(hD:6≤D)(F:Nat)(a0_N:Int)(a0_Stab a0_Destab:List Pl)(a1:Int)(a2:List Int)(q:Bool):evW 2 (OV F D) F a20 (some [.agg [.i .i64 a0_N,.vs a0_Stab.length .unk (enc Pl.cells a0_Stab),.vs a0_Destab.length .unk (enc Pl.cells a0_Destab)],.i .i64 a1,.vs a2.length .unk (enc c3 a2)]) q G0 =
 match Ptb_Gate F a0_N a0_Stab a0_Destab a1 a2 with|none=>none|some (r0,r1,r2,r3)=>some (.tup [.agg [.i .i64 r0,.vs r1.length .unk (enc Pl.cells r1),.vs r2.length .unk (enc Pl.cells r2)],.i .i64 r3],none):=by
 obtain ⟨D,rfl⟩:=dex hD
 have ctb_Check0:=etb_Check (D+5) (by omega) F
 have cgate_Check0:=egate_Check (D+5) (by omega) F
 have cgate_Clifford0:=egate_Clifford (D+5) (by omega) F
 have ctb_copiedo0:=etb_copiedo (D+5) (by omega) F
 rw [evW_some,G0]
 simp only [Ptb_Gate]
 rcases h1:(Ptb_Check F a0_N a0_Stab a0_Destab) with _|r1
 rotate_left
 by_cases h2:r1=0
 replace h2:=eq_true h2
 rcases h3:(Pgate_Check F a1 a2 a0_N) with _|r2
 rotate_left
 by_cases h4:r2=0
 replace h4:=eq_true h4
 rcases h5:((Pgate_Clifford a1)) with _|_
 rotate_left
 rcases h6:(Ptb_copied a0_N a0_Stab a0_Destab) with _|⟨r3,r4,r5⟩
 rotate_left
 by_cases h7:r4=[]
 replace h7:=eq_true h7
 by_cases h8:r5=[]
 replace h8:=eq_true h8
 simp -implicitDefEqProofs only [*,a20,vtb_Check,vgate_Check,vgate_Clifford,vtb_copiedo,a50,xtb_Gate_1,runC_loop,EVA.down,ne_eq,seval]
 rw [ltb_GateL0 (D+5) (by omega) F ([]) ([]) 0 0 a1 a2 _ F  _ (by simp only [*,a20,vtb_Check,vgate_Check,vgate_Clifford,vtb_copiedo,a50,xtb_Gate_1,EVA.down,ne_eq,seval];try rfl)]
 rcases h9:(Ptb_GateL0 F ([]) ([]) 0 0 a1 a2 F) with _|_
 rotate_left
 simp -implicitDefEqProofs only [*,a20,vtb_Check,vgate_Check,vgate_Clifford,vtb_copiedo,a50,xtb_Gate_1,runC_loop,EVA.down,ne_eq,seval]
 rw [ltb_GateL0 (D+5) (by omega) F ([]) ([]) 0 0 a1 a2 _ F  _ (by simp only [*,a20,vtb_Check,vgate_Check,vgate_Clifford,vtb_copiedo,a50,xtb_Gate_1,EVA.down,ne_eq,seval];try rfl)]
 rw [h9]
 rotate_left
 simp -implicitDefEqProofs only [*,a20,vtb_Check,vgate_Check,vgate_Clifford,vtb_copiedo,a50,xtb_Gate_1,runC_loop,EVA.down,ne_eq,seval]
 rw [ltb_GateL1 (D+5) (by omega) F ([]) ([]) 0 0 r5 a1 a2 _ F  _ (by simp only [*,a20,vtb_Check,vgate_Check,vgate_Clifford,vtb_copiedo,a50,xtb_Gate_1,EVA.down,ne_eq,seval];try rfl)]
 rcases h11:(Ptb_GateL1 F ([]) ([]) 0 0 r5 a1 a2 F) with _|_
 rotate_left
 simp -implicitDefEqProofs only [*,a20,vtb_Check,vgate_Check,vgate_Clifford,vtb_copiedo,a50,xtb_Gate_1,runC_loop,EVA.down,ne_eq,seval]
 rw [ltb_GateL2 (D+5) (by omega) F ((r5.length:Nat):Int) a1 a2 _ F 0 r5 _ (by simp only [*,a20,vtb_Check,vgate_Check,vgate_Clifford,vtb_copiedo,a50,xtb_Gate_1,EVA.down,ne_eq,seval];try rfl)]
 rcases h12:(Ptb_GateL2 F ((r5.length:Nat):Int) a1 a2 F 0 r5) with _|y6
 rotate_left
 have h12l0:y6.length=r5.length:=by have q:=ltb_GateL2n0_0 F ((r5.length:Nat):Int) a1 a2 F 0 r5 y6 h12;simpa only [List.length_set] using q
 have h12t0:=len_facts h12l0
 rotate_left
 by_cases h13:r5=[]
 replace h13:=eq_true h13
 simp -implicitDefEqProofs only [*,a20,vtb_Check,vgate_Check,vgate_Clifford,vtb_copiedo,a50,xtb_Gate_1,runC_loop,EVA.down,ne_eq,seval]
 rw [ltb_GateL2 (D+5) (by omega) F ((r4.length:Nat):Int) a1 a2 _ F 0 r4 _ (by simp only [*,a20,vtb_Check,vgate_Check,vgate_Clifford,vtb_copiedo,a50,xtb_Gate_1,EVA.down,ne_eq,seval];try rfl)]
 rcases h14:(Ptb_GateL2 F ((r4.length:Nat):Int) a1 a2 F 0 r4) with _|y7
 rotate_left
 have h14l0:y7.length=r4.length:=by have q:=ltb_GateL2n0_0 F ((r4.length:Nat):Int) a1 a2 F 0 r4 y7 h14;simpa only [List.length_set] using q
 have h14t0:=len_facts h14l0
 simp -implicitDefEqProofs only [*,a20,vtb_Check,vgate_Check,vgate_Clifford,vtb_copiedo,a50,xtb_Gate_1,runC_loop,EVA.down,ne_eq,seval]
 rw [ltb_GateL1 (D+5) (by omega) F ([]) ([]) 0 0 y7 a1 a2 _ F  _ (by simp only [*,a20,vtb_Check,vgate_Check,vgate_Clifford,vtb_copiedo,a50,xtb_Gate_1,EVA.down,ne_eq,seval];try rfl)]
 rcases h15:(Ptb_GateL1 F ([]) ([]) 0 0 y7 a1 a2 F) with _|_
 rotate_left
 rotate_left
 simp -implicitDefEqProofs only [*,a20,vtb_Check,vgate_Check,vgate_Clifford,vtb_copiedo,a50,xtb_Gate_1,runC_loop,EVA.down,ne_eq,seval]
 rw [ltb_GateL3 (D+5) (by omega) F ((r4.length:Nat):Int) r5 a1 a2 _ F 0 r4 _ (by simp only [*,a20,vtb_Check,vgate_Check,vgate_Clifford,vtb_copiedo,a50,xtb_Gate_1,EVA.down,ne_eq,seval];try rfl)]
 rcases h16:(Ptb_GateL3 F ((r4.length:Nat):Int) r5 a1 a2 F 0 r4) with _|y8
 rotate_left
 have h16l0:y8.length=r4.length:=by have q:=ltb_GateL3n0_0 F ((r4.length:Nat):Int) r5 a1 a2 F 0 r4 y8 h16;simpa only [List.length_set] using q
 have h16t0:=len_facts h16l0
 simp -implicitDefEqProofs only [*,a20,vtb_Check,vgate_Check,vgate_Clifford,vtb_copiedo,a50,xtb_Gate_1,runC_loop,EVA.down,ne_eq,seval]
 rw [ltb_GateL4 (D+5) (by omega) F ((r5.length:Nat):Int) y8 a1 a2 _ F 0 r5 _ (by simp only [*,a20,vtb_Check,vgate_Check,vgate_Clifford,vtb_copiedo,a50,xtb_Gate_1,EVA.down,ne_eq,seval];try rfl)]
 rcases h17:(Ptb_GateL4 F ((r5.length:Nat):Int) y8 a1 a2 F 0 r5) with _|y9
 rotate_left
 have h17l0:y9.length=r5.length:=by have q:=ltb_GateL4n0_0 F ((r5.length:Nat):Int) y8 a1 a2 F 0 r5 y9 h17;simpa only [List.length_set,h16l0] using q
 have h17t0:=len_facts h17l0
 all_goals simp -implicitDefEqProofs only [*,a20,vtb_Check,vgate_Check,vgate_Clifford,vtb_copiedo,a50,xtb_Gate_1,EVA.down,ne_eq,seval]
theorem vtb_Gate {D F n:Nat}{args:List AV}{h:AHeap}:OV F (D+1) 20 args h n (n+1)=evW 2 (OV F D) F a20 (frzs (frz true 0 (bif AV.nors args then [] else h) 8) args) (AV.nors args) (hglb h 2):=evV_frozen rfl
theorem elaw14_num (D:Nat)(hD:0≤D)(F:Nat)(a0:Int)(q:Bool):evW 2 (OV F D) F a13 (some [.i .i64 a0]) q G0 =
 some (.i .i64 ((Plaw14_num a0)),none):=by
 rw [evW_some,G0]
 skip
 all_goals simp -implicitDefEqProofs (maxSteps:=4000000) only [*,a13,Plaw14_num,EVA.down,ne_eq,seval]
theorem vlaw14_num {D F n:Nat}{args:List AV}{h:AHeap}:OV F (D+1) 13 args h n (n+1)=evW 2 (OV F D) F a13 (frzs (frz true 0 (bif AV.nors args then [] else h) 8) args) (AV.nors args) (hglb h 2):=evV_frozen rfl
theorem egate_Inverse (D:Nat)(hD:2≤D)(F:Nat)(a0:Int)(q:Bool):evW 2 (OV F D) F a21 (some [.i .i64 a0]) q G0 =
 match Pgate_Inverse a0 with|none=>none|some r0=>some (.i .i64 r0,none):=by
 obtain ⟨D,rfl⟩:=dex hD
 have cgate_of0:=egate_of (D+1) (by omega) F
 rw [evW_some,G0]
 simp only [Pgate_Inverse]
 rcases h1:(Pgate_of a0) with _|⟨r1,r2,r3,r4⟩
 all_goals simp -implicitDefEqProofs only [*,a21,vgate_of,EVA.down,ne_eq,seval]
theorem vgate_Inverse {D F n:Nat}{args:List AV}{h:AHeap}:OV F (D+1) 21 args h n (n+1)=evW 2 (OV F D) F a21 (frzs (frz true 0 (bif AV.nors args then [] else h) 8) args) (AV.nors args) (hglb h 2):=evV_frozen rfl
theorem ltb_unlikeL0 (D:Nat)(hD:2≤D)(F:Nat)(v0:List Int)(v1:Int)(v2:List Int)(v3:Int)(K:AE→AS→Option Res):∀ (f:Nat) (v4:Int) (s:AS),s.keep [0,1,7,8,9] []=some ⟨[(0,.vs v0.length .unk (enc c3 v0)),(1,.i .i64 v1),(7,.vs v2.length .unk (enc c3 v2)),(8,.i .i64 v3),(9,.i .i64 v4)],[],[(0,tab64)],2⟩→
 evLoop (evC (OV F D) 2 F a53L0) f s K=match Ptb_unlikeL0 F v0 v1 v2 v3 f v4 with|none=>none|some (.inl _)=>K .ret ⟨[(4,.b false)],[],[(0,tab64)],2⟩|some (.inr _)=>K (.ex 0) ⟨[],[],[(0,tab64)],2⟩:=by
 obtain ⟨D,rfl⟩:=dex hD
 have cslices_Contains_int0:=eslices_Contains_int (D+1) (by omega) F
 intro f
 induction f with
 |zero=>intro v4 s hs;simp only [evLoop,Ptb_unlikeL0]
 |succ f ih=>
 intro v4 s hs
 obtain ⟨k0,hk,hn,he,hr⟩:=@lk_all (OV F (D+2)) 2 F a53L0 f K
 rw [loop_succ,hk,a53L0,runC_cut,hs]
 clear hs
 simp only [Ptb_unlikeL0]
 clear hk
 by_cases h1:v4<v3
 rcases ixo (@pk_c3 v2 v4) with h2|⟨x1,h2⟩
 rotate_left
 by_cases h3:x1<0
 rotate_left
 by_cases h4:x1≥v1
 rotate_left
 by_cases h5:0≤v4∧v4≤(v0.length:Int)
 have h6:∀ cap x,AV.vs v4.toNat cap x=AV.vs (v0.take v4.toNat).length cap x:=by intro cap x;congr 1;simp only [List.length_take,List.length_drop];omega
 rcases h7:(Pslices_Contains_int F (v0.take v4.toNat) x1) with _|r2
 rotate_left
 rcases h8:(r2) with _|_
 all_goals simp -implicitDefEqProofs only [*,-ih,vslices_Contains_int,EVA.down,ne_eq,seval]
 all_goals exact ih _ _ (by simp only [*,-ih,vslices_Contains_int,EVA.down,ne_eq,seval])
theorem etb_unlike (D:Nat)(hD:2≤D)(F:Nat)(a0:List Int)(a1:Int)(q:Bool):evW 2 (OV F D) F a53 (some [.vs a0.length .unk (enc c3 a0),.i .i64 a1]) q G0 =
 match Ptb_unlike F a0 a1 with|none=>none|some r0=>some (.b r0,none):=by
 obtain ⟨D,rfl⟩:=dex hD
 rw [evW_some,G0]
 simp only [Ptb_unlike]
 simp -implicitDefEqProofs only [*,a53,runC_loop,EVA.down,ne_eq,seval]
 rw [ltb_unlikeL0 (D+2) (by omega) F a0 a1 a0 (a0.length:Int) _ F 0 _ (by simp only [*,a53,EVA.down,ne_eq,seval];try rfl)]
 rcases h1:(Ptb_unlikeL0 F a0 a1 a0 (a0.length:Int) F 0) with _|(_|_)
 all_goals simp -implicitDefEqProofs only [*,a53,EVA.down,ne_eq,seval]
theorem vtb_unlike {D F n:Nat}{args:List AV}{h:AHeap}:OV F (D+1) 53 args h n (n+1)=evW 2 (OV F D) F a53 (frzs (frz true 0 (bif AV.nors args then [] else h) 8) args) (AV.nors args) (hglb h 2):=evV_frozen rfl
theorem ltb_CutL0 (D:Nat)(hD:0≤D)(F:Nat)(v0 v2:List Int)(v3 v5:Int)(v6 v7:List Pl)(K:AE→AS→Option Res):∀ (f:Nat) (v1:BitVec 64) (v4:Int) (s:AS),s.keepG 2 [1,2,7,25,26,27] [2]=some ⟨[(1,.vs v0.length .unk (enc c3 v0)),(2,.lp 2 0),(7,.i .u64 (U v1)),(25,.vs v2.length .unk (enc c3 v2)),(26,.i .i64 v3),(27,.i .i64 v4)],[(2,[.i .i64 v5,.vs v6.length .unk (enc Pl.cells v6),.vs v7.length .unk (enc Pl.cells v7)])],[(0,tab64)],2⟩→
 evLoop (evC (OV F D) 2 F a22L0) f s K=match Ptb_CutL0 v0 v2 v3 v5 v6 v7 f v1 v4 with|none=>none|some (y0)=>K (.ex 0) ⟨[(1,.vs v0.length .unk (enc c3 v0)),(2,.lp 2 0),(7,.i .u64 (U y0))],[(2,[.i .i64 v5,.vs v6.length .unk (enc Pl.cells v6),.vs v7.length .unk (enc Pl.cells v7)])],[(0,tab64)],2⟩:=by
 intro f
 induction f with
 |zero=>intro v1 v4 s hs;simp only [evLoop,Ptb_CutL0]
 |succ f ih=>
 intro v1 v4 s hs
 obtain ⟨k0,hk,hn,he,hr⟩:=@lk_all (OV F (D)) 2 F a22L0 f K
 rw [loop_succ,hk,a22L0,runC_cutg,hs]
 clear hs
 simp only [Ptb_CutL0]
 clear hk
 by_cases h1:v4<v3
 rcases ixo (@pk_c3 v2 v4) with h2|⟨x1,h2⟩
 rotate_left
 by_cases h3:x1<0
 all_goals simp -implicitDefEqProofs only [*,-ih,EVA.down,ne_eq,seval]
 all_goals exact ih _ _ _ (by simp only [*,-ih,EVA.down,ne_eq,seval])
theorem ltb_CutL1 (D:Nat)(hD:0≤D)(F:Nat)(v0:List Int)(v1:BitVec 64)(v2:List Pl)(v3 v4 v5:Int)(v6 v7:List Pl)(K:AE→AS→Option Res):∀ (f:Nat) (s:AS),s.keepG 2 [1,2,7,10,40,41] [2]=some ⟨[(1,.vs v0.length .unk (enc c3 v0)),(2,.lp 2 0),(7,.i .u64 (U v1)),(10,.vs v2.length .unk (enc Pl.cells v2)),(40,.i .i64 v3),(41,.i .i64 v4)],[(2,[.i .i64 v5,.vs v6.length .unk (enc Pl.cells v6),.vs v7.length .unk (enc Pl.cells v7)])],[(0,tab64)],2⟩→
 evLoop (evC (OV F D) 2 F a22L1) f s K=match Ptb_CutL1 v0 v1 v2 v3 v4 v5 v6 v7 f with|none=>none|some (_)=>K (.ex 2) ⟨[(1,.vs v0.length .unk (enc c3 v0)),(2,.lp 2 0),(10,.vs v2.length .unk (enc Pl.cells v2))],[(2,[.i .i64 v5,.vs v6.length .unk (enc Pl.cells v6),.vs v7.length .unk (enc Pl.cells v7)])],[(0,tab64)],2⟩:=by
 intro f
 induction f with
 |zero=>intro s hs;simp only [evLoop,Ptb_CutL1]
 |succ f ih=>
 intro s hs
 obtain ⟨k0,hk,hn,he,hr⟩:=@lk_all (OV F (D)) 2 F a22L1 f K
 rw [loop_succ,hk,a22L1,runC_cutg,hs]
 clear hs
 simp only [Ptb_CutL1]
 clear hk
 by_cases h1:v4<v3
 rcases ixo (@pk_Pl_cells v2 v4) with h2|⟨x1,h2⟩
 all_goals simp -implicitDefEqProofs only [*,-ih,EVA.down,ne_eq,seval]
theorem etb_column (D:Nat)(hD:0≤D)(F:Nat)(a0_N:Int)(a0_X a0_Z:BitVec 64)(a0_Phase a1:Int)(q:Bool):evW 2 (OV F D) F a85 (some [.agg [.i .i64 a0_N,.i .u64 (U a0_X),.i .u64 (U a0_Z),.i .i64 a0_Phase],.i .i64 a1]) q G0 =
 match Ptb_column a0_N a0_X a0_Z a0_Phase a1 with|none=>none|some r0=>some (.i .u64 (U r0),none):=by
 rw [evW_some,G0]
 simp only [Ptb_column]
 by_cases h1:a1<a0_N
 by_cases h2:a1<0
 rotate_left
 rotate_left
 by_cases h3:(IntKind.i64.wrap (a1-a0_N))<0
 all_goals simp -implicitDefEqProofs only [*,a85,EVA.down,ne_eq,seval]
theorem vtb_column {D F n:Nat}{args:List AV}{h:AHeap}:OV F (D+1) 85 args h n (n+1)=evW 2 (OV F D) F a85 (frzs (frz true 0 (bif AV.nors args then [] else h) 8) args) (AV.nors args) (hglb h 2):=evV_frozen rfl
theorem ltb_echelonL0 (D:Nat)(hD:1≤D)(F:Nat)(v0:List Pl)(v1 v2 v5 v6:Int)(K:AE→AS→Option Res):∀ (f:Nat) (v3 v4:Int) (s:AS),s.keepG 2 [0,5,6,7,8,13,14] []=some ⟨[(0,.vs v0.length .unk (enc Pl.cells v0)),(5,.i .i64 v1),(6,.i .i64 v2),(7,.i .i64 v3),(8,.i .i64 v4),(13,.i .i64 v5),(14,.i .i64 v6)],[],[(0,tab64)],2⟩→
 evLoop (evC (OV F D) 2 F a55L0) f s K=match Ptb_echelonL0 v0 v1 v2 v5 v6 f v3 v4 with|none=>none|some (y0)=>K (.ex 2) ⟨[(0,.vs v0.length .unk (enc Pl.cells v0)),(5,.i .i64 v1),(6,.i .i64 v2),(7,.i .i64 y0),(13,.i .i64 v5),(14,.i .i64 v6)],[],[(0,tab64)],2⟩:=by
 obtain ⟨D,rfl⟩:=dex hD
 have ctb_column0:=etb_column (D) (by omega) F
 intro f
 induction f with
 |zero=>intro v3 v4 s hs;simp only [evLoop,Ptb_echelonL0]
 |succ f ih=>
 intro v3 v4 s hs
 obtain ⟨k0,hk,hn,he,hr⟩:=@lk_all (OV F (D+1)) 2 F a55L0 f K
 rw [loop_succ,hk,a55L0,runC_cutg,hs]
 clear hs
 simp only [Ptb_echelonL0]
 clear hk
 by_cases h1:v4<(v0.length:Int)
 by_cases h2:v3<0
 rcases ixo (@pk_Pl_cells v0 v4) with h3|⟨x1,h3⟩
 rotate_left
 rcases h4:(Ptb_column x1.N x1.X x1.Z x1.Ph v2) with _|r2
 rotate_left
 by_cases h5:r2=1#64
 replace h5:=eq_true h5
 all_goals simp -implicitDefEqProofs only [*,-ih,vtb_column,EVA.down,ne_eq,seval]
 all_goals exact ih _ _ _ (by simp only [*,-ih,vtb_column,EVA.down,ne_eq,seval])
theorem ltb_echelonL1 (D:Nat)(hD:1≤D)(F:Nat)(v0:List Pl)(v1 v2:Int)(K:AE→AS→Option Res):∀ (f:Nat) (v3:Int) (s:AS),s.keepG 2 [0,5,13,14] []=some ⟨[(0,.vs v0.length .unk (enc Pl.cells v0)),(5,.i .i64 v1),(13,.i .i64 v2),(14,.i .i64 v3)],[],[(0,tab64)],2⟩→
 evLoop (evC (OV F D) 2 F a55L2) f s K=match Ptb_echelonL1 F v0 v1 v2 f v3 with|none=>none|some (_)=>K (.ex 0) ⟨[(0,.vs v0.length .unk (enc Pl.cells v0))],[],[(0,tab64)],2⟩:=by
 obtain ⟨D,rfl⟩:=dex hD
 intro f
 induction f with
 |zero=>intro v3 s hs;simp only [evLoop,Ptb_echelonL1]
 |succ f ih=>
 intro v3 s hs
 obtain ⟨k0,hk,hn,he,hr⟩:=@lk_all (OV F (D+1)) 2 F a55L2 f K
 rw [loop_succ,hk,a55L2,runC_cutg,hs]
 clear hs
 simp only [Ptb_echelonL1]
 clear hk
 by_cases h1:v3<v2
 simp -implicitDefEqProofs only [*,-ih,runC_loop,EVA.down,ne_eq,seval]
 rw [ltb_echelonL0 (D+1) (by omega) F v0 v1 v3 v2 v3 _ F ((-1):Int) v1 _ (by simp only [*,-ih,EVA.down,ne_eq,seval];try rfl)]
 rcases h2:(Ptb_echelonL0 v0 v1 v3 v2 v3 F ((-1):Int) v1) with _|y1
 rotate_left
 by_cases h3:y1<0
 rotate_left
 rcases ixo (@pk_Pl_cells v0 y1) with h4|⟨x2,h4⟩
 rotate_left
 rcases ixo (@pk_Pl_cells v0 v1) with h5|⟨x3,h5⟩
 all_goals simp -implicitDefEqProofs only [*,-ih,EVA.down,ne_eq,seval]
 all_goals exact ih _ _ (by simp only [*,-ih,EVA.down,ne_eq,seval])
theorem ltb_echelonL2 (D:Nat)(hD:1≤D)(F:Nat)(v0 v1 v4 v5:Int)(v6:List Pl)(K:AE→AS→Option Res):∀ (f:Nat) (v2 v3:Int) (s:AS),s.keepG 2 [0,5,6,7,8,13,14] []=some ⟨[(0,.sl (some (2,0)) v6.length .op),(5,.i .i64 v0),(6,.i .i64 v1),(7,.i .i64 v2),(8,.i .i64 v3),(13,.i .i64 v4),(14,.i .i64 v5)],[],[(2,⟨true,true,39,4,enc Pl.cells v6⟩),(0,tab64)],3⟩→
 evLoop (evC (OV F D) 2 F a55L0) f s K=match Ptb_echelonL2 v0 v1 v4 v5 v6 f v2 v3 with|none=>none|some (y0)=>K (.ex 2) ⟨[(0,.sl (some (2,0)) v6.length .op),(5,.i .i64 v0),(6,.i .i64 v1),(7,.i .i64 y0),(13,.i .i64 v4),(14,.i .i64 v5)],[],[(2,⟨true,true,39,4,enc Pl.cells v6⟩),(0,tab64)],3⟩:=by
 obtain ⟨D,rfl⟩:=dex hD
 have ctb_column0:=etb_column (D) (by omega) F
 intro f
 induction f with
 |zero=>intro v2 v3 s hs;simp only [evLoop,Ptb_echelonL2]
 |succ f ih=>
 intro v2 v3 s hs
 obtain ⟨k0,hk,hn,he,hr⟩:=@lk_all (OV F (D+1)) 2 F a55L0 f K
 rw [loop_succ,hk,a55L0,runC_cutg,hs]
 clear hs
 simp only [Ptb_echelonL2]
 clear hk
 by_cases h1:v3<(((v6.length:Nat):Int))
 by_cases h2:v2<0
 rcases ixo (@pk_Pl_cells v6 v3) with h3|⟨x1,h3⟩
 rotate_left
 rcases h4:(Ptb_column x1.N x1.X x1.Z x1.Ph v1) with _|r2
 rotate_left
 by_cases h5:r2=1#64
 replace h5:=eq_true h5
 all_goals simp -implicitDefEqProofs only [*,-ih,vtb_column,EVA.down,ne_eq,seval]
 all_goals exact ih _ _ _ (by simp only [*,-ih,vtb_column,EVA.down,ne_eq,seval])
theorem epauli_pair (D:Nat)(hD:2≤D)(F:Nat)(a0_N:Int)(a0_X a0_Z:BitVec 64)(a0_Phase a1_N:Int)(a1_X a1_Z:BitVec 64)(a1_Phase:Int)(q:Bool):evW 2 (OV F D) F a44 (some [.agg [.i .i64 a0_N,.i .u64 (U a0_X),.i .u64 (U a0_Z),.i .i64 a0_Phase],.agg [.i .i64 a1_N,.i .u64 (U a1_X),.i .u64 (U a1_Z),.i .i64 a1_Phase]]) q G0 =
 some (.b ((Ppauli_pair a0_N a0_X a0_Z a0_Phase a1_N a1_X a1_Z a1_Phase)),none):=by
 obtain ⟨D,rfl⟩:=dex hD
 have cpauli_right0:=epauli_right (D+1) (by omega) F
 rw [evW_some,G0]
 simp only [Ppauli_pair]
 rcases h1:((Ppauli_right a0_N a0_X a0_Z a0_Phase)) with _|_
 rotate_left
 rcases h2:((Ppauli_right a1_N a1_X a1_Z a1_Phase)) with _|_
 all_goals simp -implicitDefEqProofs only [*,a44,vpauli_right,EVA.down,ne_eq,seval]
theorem vpauli_pair {D F n:Nat}{args:List AV}{h:AHeap}:OV F (D+1) 44 args h n (n+1)=evW 2 (OV F D) F a44 (frzs (frz true 0 (bif AV.nors args then [] else h) 8) args) (AV.nors args) (hglb h 2):=evV_frozen rfl
theorem epauli_Mul (D:Nat)(hD:3≤D)(F:Nat)(a0_N:Int)(a0_X a0_Z:BitVec 64)(a0_Phase a1_N:Int)(a1_X a1_Z:BitVec 64)(a1_Phase:Int)(q:Bool):evW 2 (OV F D) F a18 (some [.agg [.i .i64 a0_N,.i .u64 (U a0_X),.i .u64 (U a0_Z),.i .i64 a0_Phase],.agg [.i .i64 a1_N,.i .u64 (U a1_X),.i .u64 (U a1_Z),.i .i64 a1_Phase]]) q G0 =
 match Ppauli_Mul F a0_N a0_X a0_Z a0_Phase a1_N a1_X a1_Z a1_Phase with|none=>none|some (r0,r1,r2,r3,r4)=>some (.tup [.agg [.i .i64 r0,.i .u64 (U r1),.i .u64 (U r2),.i .i64 r3],.i .i64 r4],none):=by
 obtain ⟨D,rfl⟩:=dex hD
 have cpauli_pair0:=epauli_pair (D+2) (by omega) F
 have cpauli_times0:=epauli_times (D+2) (by omega) F
 rw [evW_some,G0]
 simp only [Ppauli_Mul]
 rcases h1:((Ppauli_pair a0_N a0_X a0_Z a0_Phase a1_N a1_X a1_Z a1_Phase)) with _|_
 rotate_left
 rcases h2:(Ppauli_times F a0_N a0_X a0_Z a0_Phase a1_N a1_X a1_Z a1_Phase) with _|⟨r1,r2,r3,r4⟩
 all_goals simp -implicitDefEqProofs only [*,a18,vpauli_pair,vpauli_times,EVA.down,ne_eq,seval]
theorem vpauli_Mul {D F n:Nat}{args:List AV}{h:AHeap}:OV F (D+1) 18 args h n (n+1)=evW 2 (OV F D) F a18 (frzs (frz true 0 (bif AV.nors args then [] else h) 8) args) (AV.nors args) (hglb h 2):=evV_frozen rfl
theorem etb_mul (D:Nat)(hD:4≤D)(F:Nat)(a0_N:Int)(a0_X a0_Z:BitVec 64)(a0_Phase a1_N:Int)(a1_X a1_Z:BitVec 64)(a1_Phase:Int)(q:Bool):evW 2 (OV F D) F a86 (some [.agg [.i .i64 a0_N,.i .u64 (U a0_X),.i .u64 (U a0_Z),.i .i64 a0_Phase],.agg [.i .i64 a1_N,.i .u64 (U a1_X),.i .u64 (U a1_Z),.i .i64 a1_Phase]]) q G0 =
 match Ptb_mul F a0_N a0_X a0_Z a0_Phase a1_N a1_X a1_Z a1_Phase with|none=>none|some (r0,r1,r2,r3)=>some (.agg [.i .i64 r0,.i .u64 (U r1),.i .u64 (U r2),.i .i64 r3],none):=by
 obtain ⟨D,rfl⟩:=dex hD
 have cpauli_Mul0:=epauli_Mul (D+3) (by omega) F
 rw [evW_some,G0]
 simp only [Ptb_mul]
 rcases h1:(Ppauli_Mul F a0_N a0_X a0_Z a0_Phase a1_N a1_X a1_Z a1_Phase) with _|⟨r1,r2,r3,r4,r5⟩
 all_goals simp -implicitDefEqProofs only [*,a86,vpauli_Mul,EVA.down,ne_eq,seval]
theorem vtb_mul {D F n:Nat}{args:List AV}{h:AHeap}:OV F (D+1) 86 args h n (n+1)=evW 2 (OV F D) F a86 (frzs (frz true 0 (bif AV.nors args then [] else h) 8) args) (AV.nors args) (hglb h 2):=evV_frozen rfl
theorem ltb_echelonL3 (D:Nat)(hD:5≤D)(F:Nat)(v0 v1 v2 v3 v4:Int)(K:AE→AS→Option Res):∀ (f:Nat) (v5:Int) (v6:List Pl) (s:AS),s.keepG 2 [0,5,6,13,14,53,54] []=some ⟨[(0,.sl (some (2,0)) v6.length .op),(5,.i .i64 v0),(6,.i .i64 v1),(13,.i .i64 v2),(14,.i .i64 v3),(53,.i .i64 v4),(54,.i .i64 v5)],[],[(2,⟨true,true,39,4,enc Pl.cells v6⟩),(0,tab64)],3⟩→
 evLoop (evC (OV F D) 2 F a55L1) f s K=match Ptb_echelonL3 F v0 v1 v2 v3 v4 f v5 v6 with|none=>none|some (y0)=>K (.ex 4) ⟨[(0,.sl (some (2,0)) y0.length .op),(5,.i .i64 v0),(13,.i .i64 v2),(14,.i .i64 v3)],[],[(2,⟨true,true,39,4,enc Pl.cells y0⟩),(0,tab64)],3⟩:=by
 obtain ⟨D,rfl⟩:=dex hD
 have ctb_column0:=etb_column (D+4) (by omega) F
 have ctb_mul0:=etb_mul (D+4) (by omega) F
 intro f
 induction f with
 |zero=>intro v5 v6 s hs;simp only [evLoop,Ptb_echelonL3]
 |succ f ih=>
 intro v5 v6 s hs
 obtain ⟨k0,hk,hn,he,hr⟩:=@lk_all (OV F (D+5)) 2 F a55L1 f K
 rw [loop_succ,hk,a55L1,runC_cutg,hs]
 clear hs
 simp only [Ptb_echelonL3]
 clear hk
 by_cases h1:v5<v4
 by_cases h2:v5=v0
 replace h2:=eq_true h2
 rotate_left
 rcases ixo (@pk_Pl_cells v6 v5) with h3|⟨x1,h3⟩
 rotate_left
 rcases h4:(Ptb_column x1.N x1.X x1.Z x1.Ph v1) with _|r2
 rotate_left
 by_cases h5:r2=1#64
 replace h5:=eq_true h5
 rcases ixo (@pk_Pl_cells v6 v0) with h6|⟨x3,h6⟩
 rotate_left
 rcases h7:(Ptb_mul F x1.N x1.X x1.Z x1.Ph x3.N x3.X x3.Z x3.Ph) with _|⟨r4,r5,r6,r7⟩
 rotate_left
 have h8:v5.toNat*4+4≤v6.length*4:=by have:=(idx_some h3.1).2.1;omega
 have h9:splice (enc Pl.cells v6) (v5.toNat*4) [.i .i64 r4,.i .u64 (U r5),.i .u64 (U r6),.i .i64 r7]=enc Pl.cells ((v6).set v5.toNat (⟨r4,r5,r6,r7⟩:Pl)):=own_put len_Pl_cells h3.1 (⟨r4,r5,r6,r7⟩:Pl)
 all_goals simp -implicitDefEqProofs only [*,-ih,vtb_column,vtb_mul,EVA.down,ne_eq,seval]
 all_goals exact ih _ _ _ (by simp only [*,-ih,vtb_column,vtb_mul,EVA.down,ne_eq,seval])
theorem ltb_echelonL4 (D:Nat)(hD:5≤D)(F:Nat)(v1:Int)(K:AE→AS→Option Res):∀ (f:Nat) (v0 v2:Int) (v3:List Pl) (s:AS),s.keepG 2 [0,5,13,14] []=some ⟨[(0,.sl (some (2,0)) v3.length .op),(5,.i .i64 v0),(13,.i .i64 v1),(14,.i .i64 v2)],[],[(2,⟨true,true,39,4,enc Pl.cells v3⟩),(0,tab64)],3⟩→
 evLoop (evC (OV F D) 2 F a55L2) f s K=match Ptb_echelonL4 F v1 f v0 v2 v3 with|none=>none|some (y0)=>K (.ex 0) ⟨[(0,.sl (some (2,0)) y0.length .op)],[],[(2,⟨true,true,39,4,enc Pl.cells y0⟩),(0,tab64)],3⟩:=by
 obtain ⟨D,rfl⟩:=dex hD
 intro f
 induction f with
 |zero=>intro v0 v2 v3 s hs;simp only [evLoop,Ptb_echelonL4]
 |succ f ih=>
 intro v0 v2 v3 s hs
 obtain ⟨k0,hk,hn,he,hr⟩:=@lk_all (OV F (D+5)) 2 F a55L2 f K
 rw [loop_succ,hk,a55L2,runC_cutg,hs]
 clear hs
 simp only [Ptb_echelonL4]
 clear hk
 by_cases h1:v2<v1
 simp -implicitDefEqProofs only [*,-ih,runC_loop,EVA.down,ne_eq,seval]
 rw [ltb_echelonL2 (D+5) (by omega) F v0 v2 v1 v2 v3 _ F ((-1):Int) v0 _ (by simp only [*,-ih,EVA.down,ne_eq,seval];try rfl)]
 rcases h2:(Ptb_echelonL2 v0 v2 v1 v2 v3 F ((-1):Int) v0) with _|y1
 rotate_left
 by_cases h3:y1<0
 rotate_left
 rcases ixo (@pk_Pl_cells v3 y1) with h4|⟨x2,h4⟩
 rotate_left
 rcases ixo (@pk_Pl_cells v3 v0) with h5|⟨x3,h5⟩
 rotate_left
 have h6:v0.toNat*4+4≤v3.length*4:=by have:=(idx_some h5.1).2.1;omega
 have h7:splice (enc Pl.cells v3) (v0.toNat*4) [.i .i64 x2.N,.i .u64 (U x2.X),.i .u64 (U x2.Z),.i .i64 x2.Ph]=enc Pl.cells ((v3).set v0.toNat x2):=own_put len_Pl_cells h5.1 x2
 rcases h8:(idx ((v3).set v0.toNat x2) y1) with _|x4
 have h8o:inb y1 v3.length=false:=by have q:=idx_out h8;simpa only [List.length_set] using q
 first|exact absurd (show inb y1 v3.length=true by simp only [*,-ih,-h8o]) (by rw [h8o];exact Bool.false_ne_true)|rotate_left
 have h8i:inb y1 v3.length=true:=by have q:=idx_inb h8;simpa only [List.length_set] using q
 replace h8:=pk_Pl_cells h8
 have h9:y1.toNat*4+4≤v3.length*4:=by have:=(idx_some h8.1).2.1;(try simp only [List.length_set] at this);omega
 have h10:splice (enc Pl.cells ((v3).set v0.toNat x2)) (y1.toNat*4) [.i .i64 x3.N,.i .u64 (U x3.X),.i .u64 (U x3.Z),.i .i64 x3.Ph]=enc Pl.cells (((v3).set v0.toNat x2).set y1.toNat x3):=own_put len_Pl_cells h8.1 x3
 simp -implicitDefEqProofs only [*,-ih,runC_loop,EVA.down,ne_eq,seval]
 rw [ltb_echelonL3 (D+5) (by omega) F v0 v2 v1 v2 ((v3.length:Nat):Int) _ F 0 (((v3).set v0.toNat x2).set y1.toNat x3) _ (by simp only [*,-ih,EVA.down,ne_eq,seval];try rfl)]
 rcases h11:(Ptb_echelonL3 F v0 v2 v1 v2 ((v3.length:Nat):Int) F 0 (((v3).set v0.toNat x2).set y1.toNat x3)) with _|y5
 rotate_left
 have h11l0:y5.length=v3.length:=by have q:=ltb_echelonL3n0_0 F v0 v2 v1 v2 ((v3.length:Nat):Int) F 0 (((v3).set v0.toNat x2).set y1.toNat x3) y5 h11;simpa only [List.length_set] using q
 have h11t0:=len_facts h11l0
 all_goals simp -implicitDefEqProofs only [*,-ih,EVA.down,ne_eq,seval]
 all_goals exact ih _ _ _ _ (by simp only [*,-ih,EVA.down,ne_eq,seval])
theorem etb_echelon (D:Nat)(hD:5≤D)(F:Nat)(a0:List Pl)(a1:Int)(q:Bool):evW 2 (OV F D) F a55 (some [.vs a0.length .unk (enc Pl.cells a0),.i .i64 a1]) q G0 =
 match Ptb_echelon F a0 a1 with|none=>none|some r0=>some (.vs r0.length .unk (enc Pl.cells r0),none):=by
 obtain ⟨D,rfl⟩:=dex hD
 rw [evW_some,G0]
 simp only [Ptb_echelon]
 by_cases h1:a0.length*32≤140737488355328
 by_cases h2:a0=[]
 replace h2:=eq_true h2
 simp -implicitDefEqProofs only [*,a55,k54,runC_loop,EVA.down,ne_eq,seval]
 rw [ltb_echelonL1 (D+5) (by omega) F ([]) 0 (IntKind.i64.wrap (2*a1)) _ F 0 _ (by simp only [*,a55,k54,EVA.down,ne_eq,seval];try rfl)]
 rcases h3:(Ptb_echelonL1 F ([]) 0 (IntKind.i64.wrap (2*a1)) F 0) with _|_
 rotate_left
 rotate_left
 simp -implicitDefEqProofs only [*,a55,k54,runC_loop,EVA.down,ne_eq,seval]
 rw [ltb_echelonL4 (D+5) (by omega) F (IntKind.i64.wrap (2*a1)) _ F 0 0 a0 _ (by simp only [*,a55,k54,EVA.down,ne_eq,seval];try rfl)]
 rcases h4:(Ptb_echelonL4 F (IntKind.i64.wrap (2*a1)) F 0 0 a0) with _|y1
 rotate_left
 have h4l0:y1.length=a0.length:=by have q:=ltb_echelonL4n0_0 F (IntKind.i64.wrap (2*a1)) F 0 0 a0 y1 h4;simpa only [List.length_set] using q
 have h4t0:=len_facts h4l0
 all_goals simp -implicitDefEqProofs only [*,a55,k54,EVA.down,ne_eq,seval]
theorem vtb_echelon {D F n:Nat}{args:List AV}{h:AHeap}:OV F (D+1) 55 args h n (n+1)=evW 2 (OV F D) F a55 (frzs (frz true 0 (bif AV.nors args then [] else h) 8) args) (AV.nors args) (hglb h 2):=evV_frozen rfl
theorem etb_echelono (D:Nat)(hD:5≤D)(F:Nat)(a0:List Pl)(a1:Int)(n:Nat):evX 2 (OV F D) F a55 (some [.vs a0.length .unk (enc Pl.cells a0),.i .i64 a1]) true G0 n =
 match Ptb_echelon F a0 a1 with|none=>none|some r0=>(match ownS Pl.cells 39 4 (.vs 0 .unk []) r0 n with|(w0,g0,n0)=>some (w0,some (g0,n0))):=by
 obtain ⟨D,rfl⟩:=dex hD
 rw [evX_some,G0]
 simp only [Ptb_echelon]
 by_cases h1:a0.length*32≤140737488355328
 by_cases h2:a0=[]
 replace h2:=eq_true h2
 simp -implicitDefEqProofs only [*,a55,k54,runC_loop,EVA.down,ne_eq,seval]
 rw [ltb_echelonL1 (D+5) (by omega) F ([]) 0 (IntKind.i64.wrap (2*a1)) _ F 0 _ (by simp only [*,a55,k54,EVA.down,ne_eq,seval];try rfl)]
 rcases h3:(Ptb_echelonL1 F ([]) 0 (IntKind.i64.wrap (2*a1)) F 0) with _|_
 rotate_left
 rotate_left
 simp -implicitDefEqProofs only [*,a55,k54,runC_loop,EVA.down,ne_eq,seval]
 rw [ltb_echelonL4 (D+5) (by omega) F (IntKind.i64.wrap (2*a1)) _ F 0 0 a0 _ (by simp only [*,a55,k54,EVA.down,ne_eq,seval];try rfl)]
 rcases h4:(Ptb_echelonL4 F (IntKind.i64.wrap (2*a1)) F 0 0 a0) with _|y1
 rotate_left
 have h4l0:y1.length=a0.length:=by have q:=ltb_echelonL4n0_0 F (IntKind.i64.wrap (2*a1)) F 0 0 a0 y1 h4;simpa only [List.length_set] using q
 have h4t0:=len_facts h4l0
 all_goals simp -implicitDefEqProofs only [*,a55,k54,EVA.down,ne_eq,seval]
theorem vtb_echelono {D F n:Nat}{args:List AV}{h:AHeap}:OV F (D+1) 55 args h n n=evX 2 (OV F D) F a55 (frzs (frz true 0 (bif AV.nors args then [] else h) 8) args) (AV.nors args) (hglb h 2) n:=evV_own rfl
theorem ltb_CutL2 (D:Nat)(hD:0≤D)(F:Nat)(v0:List Int)(v2:List Pl)(v3:Int)(K:AE→AS→Option Res):∀ (f:Nat) (v1 v4:Int) (s:AS),s.keepG 2 [1,12,66,67,68] []=some ⟨[(1,.vs v0.length .unk (enc c3 v0)),(12,.i .i64 v1),(66,.vs v2.length .unk (enc Pl.cells v2)),(67,.i .i64 v3),(68,.i .i64 v4)],[],[(0,tab64)],2⟩→
 evLoop (evC (OV F D) 2 F a22L2) f s K=match Ptb_CutL2 v0 v2 v3 f v1 v4 with|none=>none|some (y0)=>K (.ex 4) ⟨[(1,.vs v0.length .unk (enc c3 v0)),(12,.i .i64 y0)],[],[(0,tab64)],2⟩:=by
 intro f
 induction f with
 |zero=>intro v1 v4 s hs;simp only [evLoop,Ptb_CutL2]
 |succ f ih=>
 intro v1 v4 s hs
 obtain ⟨k0,hk,hn,he,hr⟩:=@lk_all (OV F (D)) 2 F a22L2 f K
 rw [loop_succ,hk,a22L2,runC_cutg,hs]
 clear hs
 simp only [Ptb_CutL2]
 clear hk
 by_cases h1:v4<v3
 rcases ixo (@pk_Pl_cells v2 v4) with h2|⟨x1,h2⟩
 rotate_left
 by_cases h3:(x1.X ||| x1.Z)=0#64
 replace h3:=eq_true h3
 all_goals simp -implicitDefEqProofs only [*,-ih,EVA.down,ne_eq,seval]
 all_goals exact ih _ _ _ (by simp only [*,-ih,EVA.down,ne_eq,seval])
theorem ltb_CutL3 (D:Nat)(hD:0≤D)(F:Nat)(v0:List Int)(v1:BitVec 64)(v2 v4:Int)(v5 v6:List Pl)(K:AE→AS→Option Res):∀ (f:Nat) (v3:Int) (v7:List Pl) (s:AS),s.keepG 2 [1,2,7,10,40,41] [2]=some ⟨[(1,.vs v0.length .unk (enc c3 v0)),(2,.lp 2 0),(7,.i .u64 (U v1)),(10,.sl (some (2,0)) v7.length .op),(40,.i .i64 v2),(41,.i .i64 v3)],[(2,[.i .i64 v4,.vs v5.length .unk (enc Pl.cells v5),.vs v6.length .unk (enc Pl.cells v6)])],[(2,⟨true,true,39,4,enc Pl.cells v7⟩),(0,tab64)],3⟩→
 evLoop (evC (OV F D) 2 F a22L1) f s K=match Ptb_CutL3 v0 v1 v2 v4 v5 v6 f v3 v7 with|none=>none|some (y0)=>K (.ex 2) ⟨[(1,.vs v0.length .unk (enc c3 v0)),(2,.lp 2 0),(10,.sl (some (2,0)) y0.length .op)],[(2,[.i .i64 v4,.vs v5.length .unk (enc Pl.cells v5),.vs v6.length .unk (enc Pl.cells v6)])],[(2,⟨true,true,39,4,enc Pl.cells y0⟩),(0,tab64)],3⟩:=by
 intro f
 induction f with
 |zero=>intro v3 v7 s hs;simp only [evLoop,Ptb_CutL3]
 |succ f ih=>
 intro v3 v7 s hs
 obtain ⟨k0,hk,hn,he,hr⟩:=@lk_all (OV F (D)) 2 F a22L1 f K
 rw [loop_succ,hk,a22L1,runC_cutg,hs]
 clear hs
 simp only [Ptb_CutL3]
 clear hk
 by_cases h1:v3<v2
 rcases ixo (@pk_Pl_cells v7 v3) with h2|⟨x1,h2⟩
 rotate_left
 have h3:v3.toNat*4+1+1≤v7.length*4:=by have:=(idx_some h2.1).2.1;omega
 have h4:splice (enc Pl.cells v7) (v3.toNat*4+1) [.i .u64 (U (x1.X &&& v1))]=enc Pl.cells ((v7).set v3.toNat (⟨x1.N,x1.X &&& v1,x1.Z,x1.Ph⟩:Pl)):=enc_splice len_Pl_cells (idx_some h2.1).2.2 (show 1+1≤4 by decide) rfl
 rcases h5:(idx ((v7).set v3.toNat (⟨x1.N,x1.X &&& v1,x1.Z,x1.Ph⟩:Pl)) v3) with _|x2
 have h5o:inb v3 v7.length=false:=by have q:=idx_out h5;simpa only [List.length_set] using q
 first|exact absurd (show inb v3 v7.length=true by simp only [*,-ih,-h5o]) (by rw [h5o];exact Bool.false_ne_true)|rotate_left
 have h5i:inb v3 v7.length=true:=by have q:=idx_inb h5;simpa only [List.length_set] using q
 replace h5:=pk_Pl_cells h5
 have h6:v3.toNat*4+2+1≤v7.length*4:=by have:=(idx_some h5.1).2.1;(try simp only [List.length_set] at this);omega
 have h7:splice (enc Pl.cells ((v7).set v3.toNat (⟨x1.N,x1.X &&& v1,x1.Z,x1.Ph⟩:Pl))) (v3.toNat*4+2) [.i .u64 (U (x2.Z &&& v1))]=enc Pl.cells (((v7).set v3.toNat (⟨x1.N,x1.X &&& v1,x1.Z,x1.Ph⟩:Pl)).set v3.toNat (⟨x2.N,x2.X,x2.Z &&& v1,x2.Ph⟩:Pl)):=enc_splice len_Pl_cells (idx_some h5.1).2.2 (show 2+1≤4 by decide) rfl
 all_goals simp -implicitDefEqProofs only [*,-ih,EVA.down,ne_eq,seval]
 all_goals exact ih _ _ _ (by simp only [*,-ih,EVA.down,ne_eq,seval])
theorem etb_Cut (D:Nat)(hD:6≤D)(F:Nat)(a0_N:Int)(a0_Stab a0_Destab:List Pl)(a1:List Int)(q:Bool):evW 2 (OV F D) F a22 (some [.agg [.i .i64 a0_N,.vs a0_Stab.length .unk (enc Pl.cells a0_Stab),.vs a0_Destab.length .unk (enc Pl.cells a0_Destab)],.vs a1.length .unk (enc c3 a1)]) q G0 =
 match Ptb_Cut F a0_N a0_Stab a0_Destab a1 with|none=>none|some (r0,r1)=>some (.tup [.i .i64 r0,.i .i64 r1],none):=by
 obtain ⟨D,rfl⟩:=dex hD
 have ctb_Check0:=etb_Check (D+5) (by omega) F
 have ctb_unlike0:=etb_unlike (D+5) (by omega) F
 have ctb_echelon0:=etb_echelon (D+5) (by omega) F
 have ctb_echelon0_0:=fun a1=>etb_echelon (D+5) (by omega) F [] a1
 simp only [List.length_nil,enc_nil] at ctb_echelon0_0
 have ctb_echelon0_l0:∀ (a0:List Pl) (a1:Int) (q:Bool) (m0:Nat) (_:m0=a0.length),evW 2 (OV F (D+5)) F a55 (some [.vs m0 .unk (enc Pl.cells a0),.i .i64 a1]) q G0=match Ptb_echelon F a0 a1 with|none=>none|some r0=>some (.vs r0.length .unk (enc Pl.cells r0),none):=by
  intro a0 a1 q m0 hm0
  subst hm0
  exact etb_echelon (D+5) (by omega) F a0 a1 q
 rw [evW_some,G0]
 simp only [Ptb_Cut]
 rcases h1:(Ptb_Check F a0_N a0_Stab a0_Destab) with _|r1
 rotate_left
 by_cases h2:r1=0
 replace h2:=eq_true h2
 rcases h3:(Ptb_unlike F a1 a0_N) with _|r2
 rotate_left
 rcases h4:(r2) with _|_
 rotate_left
 simp -implicitDefEqProofs only [*,a22,vtb_Check,vtb_unlike,vtb_echelon,k54,runC_loop,EVA.down,ne_eq,seval]
 rw [ltb_CutL0 (D+6) (by omega) F a1 a1 (a1.length:Int) a0_N a0_Stab a0_Destab _ F 0#64 0 _ (by simp only [*,a22,vtb_Check,vtb_unlike,vtb_echelon,k54,EVA.down,ne_eq,seval];try rfl)]
 rcases h5:(Ptb_CutL0 a1 a1 (a1.length:Int) a0_N a0_Stab a0_Destab F 0#64 0) with _|y3
 rotate_left
 by_cases h6:a0_Stab.length*32≤140737488355328
 by_cases h7:a0_Stab=[]
 replace h7:=eq_true h7
 simp -implicitDefEqProofs only [*,a22,vtb_Check,vtb_unlike,vtb_echelon,k54,runC_loop,EVA.down,ne_eq,seval]
 rw [ltb_CutL1 (D+6) (by omega) F a1 y3 ([]) 0 0 a0_N a0_Stab a0_Destab _ F  _ (by simp only [*,a22,vtb_Check,vtb_unlike,vtb_echelon,k54,EVA.down,ne_eq,seval];try rfl)]
 rcases h8:(Ptb_CutL1 a1 y3 ([]) 0 0 a0_N a0_Stab a0_Destab F) with _|_
 rotate_left
 rcases h9:(Ptb_echelon F ([]) a0_N) with _|r4
 rotate_left
 simp -implicitDefEqProofs only [*,a22,vtb_Check,vtb_unlike,vtb_echelon,k54,runC_loop,EVA.down,ne_eq,seval]
 rw [ltb_CutL2 (D+6) (by omega) F a1 r4 (r4.length:Int) _ F 0 0 _ (by simp only [*,a22,vtb_Check,vtb_unlike,vtb_echelon,k54,EVA.down,ne_eq,seval];try rfl)]
 rcases h10:(Ptb_CutL2 a1 r4 (r4.length:Int) F 0 0) with _|y5
 rotate_left
 rotate_left
 simp -implicitDefEqProofs only [*,a22,vtb_Check,vtb_unlike,vtb_echelon,k54,runC_loop,EVA.down,ne_eq,seval]
 rw [ltb_CutL3 (D+6) (by omega) F a1 y3 ((a0_Stab.length:Nat):Int) a0_N a0_Stab a0_Destab _ F 0 a0_Stab _ (by simp only [*,a22,vtb_Check,vtb_unlike,vtb_echelon,k54,EVA.down,ne_eq,seval];try rfl)]
 rcases h11:(Ptb_CutL3 a1 y3 ((a0_Stab.length:Nat):Int) a0_N a0_Stab a0_Destab F 0 a0_Stab) with _|y6
 rotate_left
 have h11l0:y6.length=a0_Stab.length:=by have q:=ltb_CutL3n0_0 a1 y3 ((a0_Stab.length:Nat):Int) a0_N a0_Stab a0_Destab F 0 a0_Stab y6 h11;simpa only [List.length_set] using q
 have h11t0:=len_facts h11l0
 rcases h12:(Ptb_echelon F y6 a0_N) with _|r7
 rotate_left
 simp -implicitDefEqProofs only [*,a22,vtb_Check,vtb_unlike,vtb_echelon,k54,runC_loop,EVA.down,ne_eq,seval]
 rw [ltb_CutL2 (D+6) (by omega) F a1 r7 (r7.length:Int) _ F 0 0 _ (by simp only [*,a22,vtb_Check,vtb_unlike,vtb_echelon,k54,EVA.down,ne_eq,seval];try rfl)]
 rcases h13:(Ptb_CutL2 a1 r7 (r7.length:Int) F 0 0) with _|y8
 all_goals simp -implicitDefEqProofs only [*,a22,vtb_Check,vtb_unlike,vtb_echelon,k54,EVA.down,ne_eq,seval]
theorem vtb_Cut {D F n:Nat}{args:List AV}{h:AHeap}:OV F (D+1) 22 args h n (n+1)=evW 2 (OV F D) F a22 (frzs (frz true 0 (bif AV.nors args then [] else h) 8) args) (AV.nors args) (hglb h 2):=evV_frozen rfl
theorem llaw14_TableauBackL0 (D:Nat)(hD:0≤D)(F:Nat)(v0:List Int)(v1 v2 v3 v4 v7:Int)(v8 v9:List Pl)(v10:Int)(v11 v12:List Pl)(v13:Int)(v14 v15:List Pl)(K:AE→AS→Option Res):∀ (f:Nat) (v5:Bool) (v6:Int) (s:AS),s.keepG 2 [3,4,9,11,12,13,14,15,16,17,18] [4,9,11]=some ⟨[(3,.vs v0.length .unk (enc c3 v0)),(4,.lp 4 0),(9,.lp 9 0),(11,.lp 11 0),(12,.i .i64 v1),(13,.i .i64 v2),(14,.i .i64 v3),(15,.sl none 0 (.ex 0)),(16,.i .i64 v4),(17,.b v5),(18,.i .i64 v6)],[(4,[.i .i64 v7,.vs v8.length .unk (enc Pl.cells v8),.vs v9.length .unk (enc Pl.cells v9)]),(9,[.i .i64 v10,.vs v11.length .unk (enc Pl.cells v11),.vs v12.length .unk (enc Pl.cells v12)]),(11,[.i .i64 v13,.vs v14.length .unk (enc Pl.cells v14),.vs v15.length .unk (enc Pl.cells v15)])],[(0,tab64)],2⟩→
 evLoop (evC (OV F D) 2 F a5L0) f s K=match Plaw14_TableauBackL0 v0 v1 v2 v3 v4 v7 v8 v9 v10 v11 v12 v13 v14 v15 f v5 v6 with|none=>none|some (y0)=>K (.ex 2) ⟨[(3,.vs v0.length .unk (enc c3 v0)),(4,.lp 4 0),(9,.lp 9 0),(11,.lp 11 0),(12,.i .i64 v1),(13,.i .i64 v2),(14,.i .i64 v3),(15,.sl none 0 (.ex 0)),(16,.i .i64 v4),(17,.b y0)],[(4,[.i .i64 v7,.vs v8.length .unk (enc Pl.cells v8),.vs v9.length .unk (enc Pl.cells v9)]),(9,[.i .i64 v10,.vs v11.length .unk (enc Pl.cells v11),.vs v12.length .unk (enc Pl.cells v12)]),(11,[.i .i64 v13,.vs v14.length .unk (enc Pl.cells v14),.vs v15.length .unk (enc Pl.cells v15)])],[(0,tab64)],2⟩:=by
 intro f
 induction f with
 |zero=>intro v5 v6 s hs;simp only [evLoop,Plaw14_TableauBackL0]
 |succ f ih=>
 intro v5 v6 s hs
 obtain ⟨k0,hk,hn,he,hr⟩:=@lk_all (OV F (D)) 2 F a5L0 f K
 rw [loop_succ,hk,a5L0,runC_cutg,hs]
 clear hs
 simp only [Plaw14_TableauBackL0]
 clear hk
 by_cases h1:v6<(v0.length:Int)
 rcases h2:(v5) with _|_
 rcases ixo (@pk_c3 v0 v6) with h3|⟨x1,h3⟩
 all_goals simp -implicitDefEqProofs (maxSteps:=4000000) only [*,-ih,EVA.down,ne_eq,seval]
 all_goals exact ih _ _ _ (by simp only [*,-ih,EVA.down,ne_eq,seval])
theorem llaw14_TableauBackL1 (D:Nat)(hD:0≤D)(F:Nat)(v0:List Int)(v1 v2 v3 v4 v7:Int)(v8 v9:List Pl)(v10:Int)(v11 v12:List Pl)(v13:Int)(v14 v15:List Pl)(v16:List Int)(K:AE→AS→Option Res):∀ (f:Nat) (v5:Bool) (v6:Int) (s:AS),s.keepG 2 [3,4,9,11,12,13,14,15,16,17,18] [4,9,11]=some ⟨[(3,.vs v0.length .unk (enc c3 v0)),(4,.lp 4 0),(9,.lp 9 0),(11,.lp 11 0),(12,.i .i64 v1),(13,.i .i64 v2),(14,.i .i64 v3),(15,.sl (some (2,0)) v16.length .op),(16,.i .i64 v4),(17,.b v5),(18,.i .i64 v6)],[(4,[.i .i64 v7,.vs v8.length .unk (enc Pl.cells v8),.vs v9.length .unk (enc Pl.cells v9)]),(9,[.i .i64 v10,.vs v11.length .unk (enc Pl.cells v11),.vs v12.length .unk (enc Pl.cells v12)]),(11,[.i .i64 v13,.vs v14.length .unk (enc Pl.cells v14),.vs v15.length .unk (enc Pl.cells v15)])],[(2,⟨true,true,3,1,enc c3 v16⟩),(0,tab64)],3⟩→
 evLoop (evC (OV F D) 2 F a5L0) f s K=match Plaw14_TableauBackL1 v0 v1 v2 v3 v4 v7 v8 v9 v10 v11 v12 v13 v14 v15 v16 f v5 v6 with|none=>none|some (y0)=>K (.ex 2) ⟨[(3,.vs v0.length .unk (enc c3 v0)),(4,.lp 4 0),(9,.lp 9 0),(11,.lp 11 0),(12,.i .i64 v1),(13,.i .i64 v2),(14,.i .i64 v3),(15,.sl (some (2,0)) v16.length .op),(16,.i .i64 v4),(17,.b y0)],[(4,[.i .i64 v7,.vs v8.length .unk (enc Pl.cells v8),.vs v9.length .unk (enc Pl.cells v9)]),(9,[.i .i64 v10,.vs v11.length .unk (enc Pl.cells v11),.vs v12.length .unk (enc Pl.cells v12)]),(11,[.i .i64 v13,.vs v14.length .unk (enc Pl.cells v14),.vs v15.length .unk (enc Pl.cells v15)])],[(2,⟨true,true,3,1,enc c3 v16⟩),(0,tab64)],3⟩:=by
 intro f
 induction f with
 |zero=>intro v5 v6 s hs;simp only [evLoop,Plaw14_TableauBackL1]
 |succ f ih=>
 intro v5 v6 s hs
 obtain ⟨k0,hk,hn,he,hr⟩:=@lk_all (OV F (D)) 2 F a5L0 f K
 rw [loop_succ,hk,a5L0,runC_cutg,hs]
 clear hs
 simp only [Plaw14_TableauBackL1]
 clear hk
 by_cases h1:v6<(v0.length:Int)
 rcases h2:(v5) with _|_
 rcases ixo (@pk_c3 v0 v6) with h3|⟨x1,h3⟩
 all_goals simp -implicitDefEqProofs (maxSteps:=4000000) only [*,-ih,EVA.down,ne_eq,seval]
 all_goals exact ih _ _ _ (by simp only [*,-ih,EVA.down,ne_eq,seval])
theorem llaw14_TableauBackL2 (D:Nat)(hD:0≤D)(F:Nat)(K:AE→AS→Option Res):∀ (f:Nat) (v0:List Int) (v1 v2 v3 v4 v5:Int) (v6 v7:List Pl) (v8:Int) (v9 v10:List Pl) (v11:Int) (v12 v13:List Pl) (v14:List Int) (s:AS),s.keepG 2 [3,4,9,11,12,13,14,15,16] [4,9,11]=some ⟨[(3,.vs v0.length .unk (enc c3 v0)),(4,.lp 4 0),(9,.lp 9 0),(11,.lp 11 0),(12,.i .i64 v1),(13,.i .i64 v2),(14,.i .i64 v3),(15,.sl (some (2,0)) v14.length .op),(16,.i .i64 v4)],[(4,[.i .i64 v5,.vs v6.length .unk (enc Pl.cells v6),.vs v7.length .unk (enc Pl.cells v7)]),(9,[.i .i64 v8,.vs v9.length .unk (enc Pl.cells v9),.vs v10.length .unk (enc Pl.cells v10)]),(11,[.i .i64 v11,.vs v12.length .unk (enc Pl.cells v12),.vs v13.length .unk (enc Pl.cells v13)])],[(2,⟨true,true,3,1,enc c3 v14⟩),(0,tab64)],3⟩→
 evLoop (evC (OV F D) 2 F a5L1) f s K=match Plaw14_TableauBackL2 F f v0 v1 v2 v3 v4 v5 v6 v7 v8 v9 v10 v11 v12 v13 v14 with|none=>none|some (.inl (y0,y1,y2,y3,y4,y5,y6,y7,y8,y9,y10,y11,y12))=>K (.ex 0) ⟨[(3,.vs y0.length .unk (enc c3 y0)),(4,.lp 4 0),(9,.lp 9 0),(11,.lp 11 0),(12,.i .i64 y1),(13,.i .i64 y2),(14,.i .i64 y3),(15,.sl none 0 (.ex 0))],[(4,[.i .i64 y4,.vs y5.length .unk (enc Pl.cells y5),.vs y6.length .unk (enc Pl.cells y6)]),(9,[.i .i64 y7,.vs y8.length .unk (enc Pl.cells y8),.vs y9.length .unk (enc Pl.cells y9)]),(11,[.i .i64 y10,.vs y11.length .unk (enc Pl.cells y11),.vs y12.length .unk (enc Pl.cells y12)])],[(0,tab64)],2⟩|some (.inr (y0,y1,y2,y3,y4,y5,y6,y7,y8,y9,y10,y11,y12,y13))=>K (.ex 0) ⟨[(3,.vs y0.length .unk (enc c3 y0)),(4,.lp 4 0),(9,.lp 9 0),(11,.lp 11 0),(12,.i .i64 y1),(13,.i .i64 y2),(14,.i .i64 y3),(15,.sl (some (2,0)) y13.length .op)],[(4,[.i .i64 y4,.vs y5.length .unk (enc Pl.cells y5),.vs y6.length .unk (enc Pl.cells y6)]),(9,[.i .i64 y7,.vs y8.length .unk (enc Pl.cells y8),.vs y9.length .unk (enc Pl.cells y9)]),(11,[.i .i64 y10,.vs y11.length .unk (enc Pl.cells y11),.vs y12.length .unk (enc Pl.cells y12)])],[(2,⟨true,true,3,1,enc c3 y13⟩),(0,tab64)],3⟩:=by
 intro f
 induction f with
 |zero=>intro v0 v1 v2 v3 v4 v5 v6 v7 v8 v9 v10 v11 v12 v13 v14 s hs;simp only [evLoop,Plaw14_TableauBackL2]
 |succ f ih=>
 intro v0 v1 v2 v3 v4 v5 v6 v7 v8 v9 v10 v11 v12 v13 v14 s hs
 obtain ⟨k0,hk,hn,he,hr⟩:=@lk_all (OV F (D)) 2 F a5L1 f K
 rw [loop_succ,hk,a5L1,runC_cutg,hs]
 clear hs
 simp only [Plaw14_TableauBackL2]
 clear hk
 by_cases h1:v4<v5
 simp -implicitDefEqProofs (maxSteps:=4000000) only [*,-ih,runC_loop,EVA.down,ne_eq,seval]
 rw [llaw14_TableauBackL1 (D) (by omega) F v0 v1 v2 v3 v4 v5 v6 v7 v8 v9 v10 v11 v12 v13 v14 _ F false 0 _ (by simp only [*,-ih,EVA.down,ne_eq,seval];try rfl)]
 rcases h2:(Plaw14_TableauBackL1 v0 v1 v2 v3 v4 v5 v6 v7 v8 v9 v10 v11 v12 v13 v14 F false 0) with _|y1
 rotate_left
 rcases h3:(y1) with _|_
 by_cases h4:(v14.length+1)*8≤140737488355328
 all_goals simp -implicitDefEqProofs (maxSteps:=4000000) only [*,-ih,EVA.down,ne_eq,seval]
 all_goals exact ih _ _ _ _ _ _ _ _ _ _ _ _ _ _ _ _ (by simp only [*,-ih,EVA.down,ne_eq,seval])
theorem llaw14_TableauBackL3 (D:Nat)(hD:0≤D)(F:Nat)(K:AE→AS→Option Res):∀ (f:Nat) (v0:List Int) (v1 v2 v3 v4 v5:Int) (v6 v7:List Pl) (v8:Int) (v9 v10:List Pl) (v11:Int) (v12 v13:List Pl) (s:AS),s.keepG 2 [3,4,9,11,12,13,14,15,16] [4,9,11]=some ⟨[(3,.vs v0.length .unk (enc c3 v0)),(4,.lp 4 0),(9,.lp 9 0),(11,.lp 11 0),(12,.i .i64 v1),(13,.i .i64 v2),(14,.i .i64 v3),(15,.sl none 0 (.ex 0)),(16,.i .i64 v4)],[(4,[.i .i64 v5,.vs v6.length .unk (enc Pl.cells v6),.vs v7.length .unk (enc Pl.cells v7)]),(9,[.i .i64 v8,.vs v9.length .unk (enc Pl.cells v9),.vs v10.length .unk (enc Pl.cells v10)]),(11,[.i .i64 v11,.vs v12.length .unk (enc Pl.cells v12),.vs v13.length .unk (enc Pl.cells v13)])],[(0,tab64)],2⟩→
 evLoop (evC (OV F D) 2 F a5L1) f s K=match Plaw14_TableauBackL3 F f v0 v1 v2 v3 v4 v5 v6 v7 v8 v9 v10 v11 v12 v13 with|none=>none|some (.inl (y0,y1,y2,y3,y4,y5,y6,y7,y8,y9,y10,y11,y12))=>K (.ex 0) ⟨[(3,.vs y0.length .unk (enc c3 y0)),(4,.lp 4 0),(9,.lp 9 0),(11,.lp 11 0),(12,.i .i64 y1),(13,.i .i64 y2),(14,.i .i64 y3),(15,.sl none 0 (.ex 0))],[(4,[.i .i64 y4,.vs y5.length .unk (enc Pl.cells y5),.vs y6.length .unk (enc Pl.cells y6)]),(9,[.i .i64 y7,.vs y8.length .unk (enc Pl.cells y8),.vs y9.length .unk (enc Pl.cells y9)]),(11,[.i .i64 y10,.vs y11.length .unk (enc Pl.cells y11),.vs y12.length .unk (enc Pl.cells y12)])],[(0,tab64)],2⟩|some (.inr (y0,y1,y2,y3,y4,y5,y6,y7,y8,y9,y10,y11,y12,y13))=>K (.ex 0) ⟨[(3,.vs y0.length .unk (enc c3 y0)),(4,.lp 4 0),(9,.lp 9 0),(11,.lp 11 0),(12,.i .i64 y1),(13,.i .i64 y2),(14,.i .i64 y3),(15,.sl (some (2,0)) y13.length .op)],[(4,[.i .i64 y4,.vs y5.length .unk (enc Pl.cells y5),.vs y6.length .unk (enc Pl.cells y6)]),(9,[.i .i64 y7,.vs y8.length .unk (enc Pl.cells y8),.vs y9.length .unk (enc Pl.cells y9)]),(11,[.i .i64 y10,.vs y11.length .unk (enc Pl.cells y11),.vs y12.length .unk (enc Pl.cells y12)])],[(2,⟨true,true,3,1,enc c3 y13⟩),(0,tab64)],3⟩:=by
 have nllaw14_TableauBackL2:=llaw14_TableauBackL2 (D) (by omega) F K
 intro f
 induction f with
 |zero=>intro v0 v1 v2 v3 v4 v5 v6 v7 v8 v9 v10 v11 v12 v13 s hs;simp only [evLoop,Plaw14_TableauBackL3]
 |succ f ih=>
 intro v0 v1 v2 v3 v4 v5 v6 v7 v8 v9 v10 v11 v12 v13 s hs
 obtain ⟨k0,hk,hn,he,hr⟩:=@lk_all (OV F (D)) 2 F a5L1 f K
 rw [loop_succ,hk,a5L1,runC_cutg,hs]
 clear hs
 simp only [Plaw14_TableauBackL3]
 clear hk
 by_cases h1:v4<v5
 simp -implicitDefEqProofs (maxSteps:=4000000) only [*,-ih,runC_loop,EVA.down,ne_eq,seval]
 rw [llaw14_TableauBackL0 (D) (by omega) F v0 v1 v2 v3 v4 v5 v6 v7 v8 v9 v10 v11 v12 v13 _ F false 0 _ (by simp only [*,-ih,EVA.down,ne_eq,seval];try rfl)]
 rcases h2:(Plaw14_TableauBackL0 v0 v1 v2 v3 v4 v5 v6 v7 v8 v9 v10 v11 v12 v13 F false 0) with _|y1
 rotate_left
 rcases h3:(y1) with _|_
 all_goals simp -implicitDefEqProofs (maxSteps:=4000000) only [*,-ih,EVA.down,ne_eq,seval]
 all_goals first|exact ih _ _ _ _ _ _ _ _ _ _ _ _ _ _ _ (by simp only [*,-ih,EVA.down,ne_eq,seval])|exact nllaw14_TableauBackL2 f _ _ _ _ _ _ _ _ _ _ _ _ _ _ _ _ (by simp only [*,-ih,EVA.down,ne_eq,seval])
theorem lref14_SameRowsL0 (D:Nat)(hD:0≤D)(F:Nat)(v0 v1:List Pl)(K:AE→AS→Option Res):∀ (f:Nat) (v2:Int) (s:AS),s.keep [0,1,5] []=some ⟨[(0,.vs v0.length .unk (enc Pl.cells v0)),(1,.vs v1.length .unk (enc Pl.cells v1)),(5,.i .i64 v2)],[],[(0,tab64)],2⟩→
 evLoop (evC (OV F D) 2 F a41L0) f s K=match Pref14_SameRowsL0 v0 v1 f v2 with|none=>none|some (.inl _)=>K .ret ⟨[(4,.b false)],[],[(0,tab64)],2⟩|some (.inr _)=>K (.ex 0) ⟨[],[],[(0,tab64)],2⟩:=by
 intro f
 induction f with
 |zero=>intro v2 s hs;simp only [evLoop,Pref14_SameRowsL0]
 |succ f ih=>
 intro v2 s hs
 obtain ⟨k0,hk,hn,he,hr⟩:=@lk_all (OV F (D)) 2 F a41L0 f K
 rw [loop_succ,hk,a41L0,runC_cut,hs]
 clear hs
 simp only [Pref14_SameRowsL0]
 clear hk
 by_cases h1:v2<(v0.length:Int)
 rcases ixo (@pk_Pl_cells v0 v2) with h2|⟨x1,h2⟩
 rotate_left
 rcases ixo (@pk_Pl_cells v1 v2) with h3|⟨x2,h3⟩
 rotate_left
 rcases h4:((decide (x1.N=x2.N)&&(decide (x1.X=x2.X)&&(decide (x1.Z=x2.Z)&&decide (x1.Ph=x2.Ph))))) with _|_
 all_goals simp -implicitDefEqProofs only [*,-ih,EVA.down,ne_eq,seval]
 all_goals exact ih _ _ (by simp only [*,-ih,EVA.down,ne_eq,seval])
theorem eref14_SameRows (D:Nat)(hD:0≤D)(F:Nat)(a0 a1:List Pl)(q:Bool):evW 2 (OV F D) F a41 (some [.vs a0.length .unk (enc Pl.cells a0),.vs a1.length .unk (enc Pl.cells a1)]) q G0 =
 match Pref14_SameRows F a0 a1 with|none=>none|some r0=>some (.b r0,none):=by
 rw [evW_some,G0]
 simp only [Pref14_SameRows]
 by_cases h1:(a0.length:Int)=(a1.length:Int)
 replace h1:=eq_true h1
 simp -implicitDefEqProofs only [*,a41,runC_loop,EVA.down,ne_eq,seval]
 rw [lref14_SameRowsL0 (D) (by omega) F a0 a1 _ F 0 _ (by simp only [*,a41,EVA.down,ne_eq,seval];try rfl)]
 rcases h2:(Pref14_SameRowsL0 a0 a1 F 0) with _|(_|_)
 all_goals simp -implicitDefEqProofs only [*,a41,EVA.down,ne_eq,seval]
theorem vref14_SameRows {D F n:Nat}{args:List AV}{h:AHeap}:OV F (D+1) 41 args h n (n+1)=evW 2 (OV F D) F a41 (frzs (frz true 0 (bif AV.nors args then [] else h) 8) args) (AV.nors args) (hglb h 2):=evV_frozen rfl
theorem eref14_Alike (D:Nat)(hD:1≤D)(F:Nat)(a0_N:Int)(a0_Stab a0_Destab:List Pl)(a1_N:Int)(a1_Stab a1_Destab:List Pl)(q:Bool):evW 2 (OV F D) F a15 (some [.agg [.i .i64 a0_N,.vs a0_Stab.length .unk (enc Pl.cells a0_Stab),.vs a0_Destab.length .unk (enc Pl.cells a0_Destab)],.agg [.i .i64 a1_N,.vs a1_Stab.length .unk (enc Pl.cells a1_Stab),.vs a1_Destab.length .unk (enc Pl.cells a1_Destab)]]) q G0 =
 match Pref14_Alike F a0_N a0_Stab a0_Destab a1_N a1_Stab a1_Destab with|none=>none|some r0=>some (.b r0,none):=by
 obtain ⟨D,rfl⟩:=dex hD
 have cref14_SameRows0:=eref14_SameRows (D) (by omega) F
 rw [evW_some,G0]
 simp only [Pref14_Alike]
 by_cases h1:a0_N=a1_N
 replace h1:=eq_true h1
 rcases h2:(Pref14_SameRows F a0_Stab a1_Stab) with _|r1
 rotate_left
 rcases h3:(r1) with _|_
 rotate_left
 rcases h4:(Pref14_SameRows F a0_Destab a1_Destab) with _|r2
 all_goals simp -implicitDefEqProofs only [*,a15,vref14_SameRows,EVA.down,ne_eq,seval]
theorem vref14_Alike {D F n:Nat}{args:List AV}{h:AHeap}:OV F (D+1) 15 args h n (n+1)=evW 2 (OV F D) F a15 (frzs (frz true 0 (bif AV.nors args then [] else h) 8) args) (AV.nors args) (hglb h 2):=evV_frozen rfl
theorem elaw14_TableauBack (D:Nat)(hD:7≤D)(F:Nat)(a0_N:Int)(a0_Stab a0_Destab:List Pl)(a1:Int)(a2 a3:List Int)(q:Bool):evW 2 (OV F D) F a5 (some [.agg [.i .i64 a0_N,.vs a0_Stab.length .unk (enc Pl.cells a0_Stab),.vs a0_Destab.length .unk (enc Pl.cells a0_Destab)],.i .i64 a1,.vs a2.length .unk (enc c3 a2),.vs a3.length .unk (enc c3 a3)]) q G0 =
 match Plaw14_TableauBack F a0_N a0_Stab a0_Destab a1 a2 a3 with|none=>none|some r0=>some (.b r0,none):=by
 obtain ⟨D,rfl⟩:=dex hD
 have claw14_num0:=elaw14_num (D+6) (by omega) F
 have ctb_Check0:=etb_Check (D+6) (by omega) F
 have cref14_Alike0:=eref14_Alike (D+6) (by omega) F
 have ctb_Gate0:=etb_Gate (D+6) (by omega) F
 have cgate_Inverse0:=egate_Inverse (D+6) (by omega) F
 have ctb_Cut0:=etb_Cut (D+6) (by omega) F
 have ctb_Cut0_3:=fun a0_N a0_Stab a0_Destab=>etb_Cut (D+6) (by omega) F a0_N a0_Stab a0_Destab []
 simp only [List.length_nil,enc_nil] at ctb_Cut0_3
 rw [evW_some,G0]
 simp only [Plaw14_TableauBack]
 rcases h1:(Ptb_Gate F a0_N a0_Stab a0_Destab a1 a2) with _|⟨r1,r2,r3,r4⟩
 rotate_left
 by_cases h2:(Plaw14_num r4)=0
 replace h2:=eq_true h2
 rcases h3:(Pgate_Inverse a1) with _|r5
 rotate_left
 rcases h4:(Ptb_Gate F r1 r2 r3 r5 a2) with _|⟨r6,r7,r8,r9⟩
 rotate_left
 rcases h5:(Ptb_Cut F a0_N a0_Stab a0_Destab a3) with _|⟨r10,r11⟩
 rotate_left
 simp -implicitDefEqProofs (maxSteps:=4000000) only [*,a5,vlaw14_num,vtb_Check,vref14_Alike,vtb_Gate,vgate_Inverse,vtb_Cut,k16,runC_loop,EVA.down,ne_eq,seval]
 rw [llaw14_TableauBackL3 (D+7) (by omega) F  _ F a3 r9 r10 r11 0 a0_N a0_Stab a0_Destab r1 r2 r3 r6 r7 r8 _ (by simp only [*,a5,vlaw14_num,vtb_Check,vref14_Alike,vtb_Gate,vgate_Inverse,vtb_Cut,k16,EVA.down,ne_eq,seval];try rfl)]
 rcases h6:(Plaw14_TableauBackL3 F F a3 r9 r10 r11 0 a0_N a0_Stab a0_Destab r1 r2 r3 r6 r7 r8) with _|(⟨y12,y13,y14,y15,y16,y17,y18,y19,y20,y21,y22,y23,y24⟩|⟨y25,y26,y27,y28,y29,y30,y31,y32,y33,y34,y35,y36,y37,y38⟩)
 rotate_left
 rcases h7:(Ptb_Cut F y16 y17 y18 ([])) with _|⟨r39,r40⟩
 rotate_left
 by_cases h8:(Plaw14_num y13)=0
 replace h8:=eq_true h8
 rcases h9:(Pref14_Alike F y22 y23 y24 y16 y17 y18) with _|r41
 rotate_left
 rcases h10:(r41) with _|_
 rotate_left
 rcases h11:(Ptb_Check F y19 y20 y21) with _|r42
 rotate_left
 by_cases h12:(Plaw14_num r42)=0
 replace h12:=eq_true h12
 by_cases h13:(Plaw14_num r40)=0
 replace h13:=eq_true h13
 by_cases h14:(Plaw14_num y15)=0
 replace h14:=eq_true h14
 by_cases h15:y14=r39
 replace h15:=eq_true h15
 by_cases h16:y14≥0
 by_cases h17:y14≤(y12.length:Int)
 by_cases h18:y14≤0
 rotate_left
 rotate_left
 rotate_left
 rotate_left
 rotate_left
 rotate_left
 rotate_left
 rotate_left
 rotate_left
 rcases h19:(Ptb_Cut F y29 y30 y31 y38) with _|⟨r43,r44⟩
 rotate_left
 by_cases h20:(Plaw14_num y26)=0
 replace h20:=eq_true h20
 rcases h21:(Pref14_Alike F y35 y36 y37 y29 y30 y31) with _|r45
 rotate_left
 rcases h22:(r45) with _|_
 rotate_left
 rcases h23:(Ptb_Check F y32 y33 y34) with _|r46
 rotate_left
 by_cases h24:(Plaw14_num r46)=0
 replace h24:=eq_true h24
 by_cases h25:(Plaw14_num r44)=0
 replace h25:=eq_true h25
 by_cases h26:(Plaw14_num y28)=0
 replace h26:=eq_true h26
 by_cases h27:y27=r43
 replace h27:=eq_true h27
 by_cases h28:y27≥0
 by_cases h29:y27≤(y25.length:Int)
 by_cases h30:y27≤(((y38.length:Nat):Int))
 rotate_left
 rotate_left
 rotate_left
 rotate_left
 rotate_left
 rotate_left
 rotate_left
 rotate_left
 rotate_left
 by_cases h31:r1=0
 replace h31:=eq_true h31
 by_cases h32:(r2.length:Int)=0
 replace h32:=eq_true h32
 all_goals simp -implicitDefEqProofs (maxSteps:=4000000) only [*,a5,vlaw14_num,vtb_Check,vref14_Alike,vtb_Gate,vgate_Inverse,vtb_Cut,k16,EVA.down,ne_eq,seval]
theorem vlaw14_TableauBack {D F n:Nat}{args:List AV}{h:AHeap}:OV F (D+1) 5 args h n (n+1)=evW 2 (OV F D) F a5 (frzs (frz true 0 (bif AV.nors args then [] else h) 8) args) (AV.nors args) (hglb h 2):=evV_frozen rfl
end Go.Proofs.YtogkkamlmklpkaaDoor.Ab
