/- Functions of the program as plain functions, and that the abstract machine's evaluation comes to them. Written by G.py. No condition. -/
import Derived.Test.YtogkkamlmklpkaaDoorH2
set_option maxRecDepth 100000
set_option maxHeartbeats 4000000
set_option linter.unusedVariables false
set_option linter.unusedSimpArgs false
namespace Go.Proofs.YtogkkamlmklpkaaDoor.Ab
open Go
theorem eref14_Alike (D:Nat)(hD:1≤D)(F:Nat)(a0_N:Int)(a0_Stab a0_Destab:List Pl)(a1_N:Int)(a1_Stab a1_Destab:List Pl)(q:Bool):evW 2 (OV F D) F a15 (some [.agg [.i .i64 a0_N,.vs a0_Stab.length .unk (enc Pl.cells a0_Stab),.vs a0_Destab.length .unk (enc Pl.cells a0_Destab)],.agg [.i .i64 a1_N,.vs a1_Stab.length .unk (enc Pl.cells a1_Stab),.vs a1_Destab.length .unk (enc Pl.cells a1_Destab)]]) q G0 =
 match Pref14_Alike F a0_N a0_Stab a0_Destab a1_N a1_Stab a1_Destab with|none=>none|some r0=>some (.b r0,none):=by
 obtain ⟨D,rfl⟩:=dex hD
 have cref14_SameRows0:=eref14_SameRows (D) (by omega) F
 rw [evW_some,G0]
 simp only [Pref14_Alike]
 by_cases h1:a0_N=a1_N
 replace h1:=eq_true h1
 rcases h2:(Pref14_SameRows F a0_Stab a1_Stab) with _|r1
 rotate_left
 rcases h3:(r1) with _|_
 rotate_left
 rcases h4:(Pref14_SameRows F a0_Destab a1_Destab) with _|r2
 all_goals simp -implicitDefEqProofs only [*,a15,vref14_SameRows,EVA.down,ne_eq,seval]
theorem vref14_Alike {D F n:Nat}{args:List AV}{h:AHeap}:OV F (D+1) 15 args h n (n+1)=evW 2 (OV F D) F a15 (frzs (frz true 0 (bif AV.nors args then [] else h) 8) args) (AV.nors args) (hglb h 2):=evV_frozen rfl
theorem elaw14_first (D:Nat)(hD:0≤D)(F:Nat)(a0:List Int)(q:Bool):evW 2 (OV F D) F a66 (some [.vs a0.length .unk (enc c3 a0)]) q G0 =
 match Plaw14_first a0 with|none=>none|some r0=>some (.i .i64 r0,none):=by
 rw [evW_some,G0]
 simp only [Plaw14_first]
 by_cases h1:(a0.length:Int)=0
 replace h1:=eq_true h1
 rotate_left
 rcases ixo (@pk_c3 a0 (0)) with h2|⟨x1,h2⟩
 rotate_left
 try simp only [Int.reduceToNat,Nat.reduceMul,Nat.reduceAdd,Nat.zero_mul,Nat.zero_add,List.drop_zero] at h2
 all_goals simp -implicitDefEqProofs (maxSteps:=4000000) only [*,a66,EVA.down,ne_eq,seval]
theorem vlaw14_first {D F n:Nat}{args:List AV}{h:AHeap}:OV F (D+1) 66 args h n (n+1)=evW 2 (OV F D) F a66 (frzs (frz true 0 (bif AV.nors args then [] else h) 8) args) (AV.nors args) (hglb h 2):=evV_frozen rfl
theorem etb_asked (D:Nat)(hD:4≤D)(F:Nat)(a0_N:Int)(a0_Stab a0_Destab:List Pl)(a1:Int)(q:Bool):evW 2 (OV F D) F a56 (some [.agg [.i .i64 a0_N,.vs a0_Stab.length .unk (enc Pl.cells a0_Stab),.vs a0_Destab.length .unk (enc Pl.cells a0_Destab)],.i .i64 a1]) q G0 =
 match Ptb_asked F a0_N a0_Stab a0_Destab a1 with|none=>none|some r0=>some (.i .i64 r0,none):=by
 obtain ⟨D,rfl⟩:=dex hD
 have ctb_Check0:=etb_Check (D+3) (by omega) F
 rw [evW_some,G0]
 simp only [Ptb_asked]
 rcases h1:(Ptb_Check F a0_N a0_Stab a0_Destab) with _|r1
 rotate_left
 by_cases h2:r1=0
 replace h2:=eq_true h2
 by_cases h3:a1<0
 rotate_left
 by_cases h4:a1≥a0_N
 all_goals simp -implicitDefEqProofs only [*,a56,vtb_Check,EVA.down,ne_eq,seval]
theorem vtb_asked {D F n:Nat}{args:List AV}{h:AHeap}:OV F (D+1) 56 args h n (n+1)=evW 2 (OV F D) F a56 (frzs (frz true 0 (bif AV.nors args then [] else h) 8) args) (AV.nors args) (hglb h 2):=evV_frozen rfl
theorem wtb_open_1 {D F n:Nat}{args:List AV}{h:AHeap}:OV F (D+1) 87 args h n (n+1)=match frzs (frz true 0 (bif AV.nors args then [] else h) 8) args with|none=>none|some zs=>match evFn (OV F D) 2 F a87 zs (hglb h 2) 2 with|none=>none|some (v,h',_)=>match frz (AV.nors args) 2 h' 8 v with|some v'=>some (v',none)|none=>none:=(evV_frozen rfl).trans rfl
theorem ltb_openL0 (D:Nat)(hD:1≤D)(F:Nat)(v0:List Pl)(v1 v2:Int)(K:AE→AS→Option Res):∀ (f:Nat) (v3:Int) (s:AS),s.keep [0,1,7,8] []=some ⟨[(0,.vs v0.length .unk (enc Pl.cells v0)),(1,.fn (.func 87) [] [.vp [.i .i64 v1]]),(7,.i .i64 v2),(8,.i .i64 v3)],[],[(0,tab64)],2⟩→
 evLoop (evC (OV F D) 2 F a60L0) f s K=match Ptb_openL0 v0 v1 v2 f v3 with|none=>none|some (.inl y0)=>K .ret ⟨[(4,.i .i64 y0)],[],[(0,tab64)],2⟩|some (.inr _)=>K (.ex 0) ⟨[],[],[(0,tab64)],2⟩:=by
 obtain ⟨D,rfl⟩:=dex hD
 intro f
 induction f with
 |zero=>intro v3 s hs;simp only [evLoop,Ptb_openL0]
 |succ f ih=>
 intro v3 s hs
 obtain ⟨k0,hk,hn,he,hr⟩:=@lk_all (OV F (D+1)) 2 F a60L0 f K
 rw [loop_succ,hk,a60L0,runC_cut,hs]
 clear hs
 simp only [Ptb_openL0]
 clear hk
 by_cases h1:v3<v2
 rcases ixo (@pk_Pl_cells v0 v3) with h2|⟨x1,h2⟩
 rotate_left
 by_cases h3:v1<0
 rotate_left
 by_cases h4:((x1.X >>> v1.toNat) &&& 1#64)=1#64
 replace h4:=eq_true h4
 all_goals simp -implicitDefEqProofs only [*,-ih,a87,wtb_open_1,EVA.down,ne_eq,seval]
 all_goals exact ih _ _ (by simp only [*,-ih,a87,wtb_open_1,EVA.down,ne_eq,seval])
theorem wslices_IndexFunc_Pauli {D F n:Nat}{args:List AV}{h:AHeap}:OV F (D+1) 60 args h n (n+1)=match frzs (frz true 0 (bif AV.nors args then [] else h) 8) args with|none=>none|some zs=>match evFn (OV F D) 2 F a60 zs (hglb h 2) 2 with|none=>none|some (v,h',_)=>match frz (AV.nors args) 2 h' 8 v with|some v'=>some (v',none)|none=>none:=(evV_frozen rfl).trans rfl
theorem etb_open (D:Nat)(hD:2≤D)(F:Nat)(a0_N:Int)(a0_Stab a0_Destab:List Pl)(a1:Int)(q:Bool):evW 2 (OV F D) F a57 (some [.agg [.i .i64 a0_N,.vs a0_Stab.length .unk (enc Pl.cells a0_Stab),.vs a0_Destab.length .unk (enc Pl.cells a0_Destab)],.i .i64 a1]) q G0 =
 match Ptb_open F a0_N a0_Stab a0_Destab a1 with|none=>none|some r0=>some (.i .i64 r0,none):=by
 obtain ⟨D,rfl⟩:=dex hD
 rw [evW_some,G0]
 simp only [Ptb_open]
 simp -implicitDefEqProofs only [*,a57,a60,wslices_IndexFunc_Pauli,runC_loop,EVA.down,ne_eq,seval]
 rw [ltb_openL0 (D+1) (by omega) F a0_Stab a1 (a0_Stab.length:Int) _ F 0 _ (by simp only [*,a57,a60,wslices_IndexFunc_Pauli,EVA.down,ne_eq,seval];try rfl)]
 rcases h1:(Ptb_openL0 a0_Stab a1 (a0_Stab.length:Int) F 0) with _|(y1|_)
 all_goals simp -implicitDefEqProofs only [*,a57,a60,wslices_IndexFunc_Pauli,EVA.down,ne_eq,seval]
theorem vtb_open {D F n:Nat}{args:List AV}{h:AHeap}:OV F (D+1) 57 args h n (n+1)=evW 2 (OV F D) F a57 (frzs (frz true 0 (bif AV.nors args then [] else h) 8) args) (AV.nors args) (hglb h 2):=evV_frozen rfl
theorem epauli_pair (D:Nat)(hD:2≤D)(F:Nat)(a0_N:Int)(a0_X a0_Z:BitVec 64)(a0_Phase a1_N:Int)(a1_X a1_Z:BitVec 64)(a1_Phase:Int)(q:Bool):evW 2 (OV F D) F a44 (some [.agg [.i .i64 a0_N,.i .u64 (U a0_X),.i .u64 (U a0_Z),.i .i64 a0_Phase],.agg [.i .i64 a1_N,.i .u64 (U a1_X),.i .u64 (U a1_Z),.i .i64 a1_Phase]]) q G0 =
 some (.b ((Ppauli_pair a0_N a0_X a0_Z a0_Phase a1_N a1_X a1_Z a1_Phase)),none):=by
 obtain ⟨D,rfl⟩:=dex hD
 have cpauli_right0:=epauli_right (D+1) (by omega) F
 rw [evW_some,G0]
 simp only [Ppauli_pair]
 rcases h1:((Ppauli_right a0_N a0_X a0_Z a0_Phase)) with _|_
 rotate_left
 rcases h2:((Ppauli_right a1_N a1_X a1_Z a1_Phase)) with _|_
 all_goals simp -implicitDefEqProofs only [*,a44,vpauli_right,EVA.down,ne_eq,seval]
theorem vpauli_pair {D F n:Nat}{args:List AV}{h:AHeap}:OV F (D+1) 44 args h n (n+1)=evW 2 (OV F D) F a44 (frzs (frz true 0 (bif AV.nors args then [] else h) 8) args) (AV.nors args) (hglb h 2):=evV_frozen rfl
theorem epauli_Mul (D:Nat)(hD:3≤D)(F:Nat)(a0_N:Int)(a0_X a0_Z:BitVec 64)(a0_Phase a1_N:Int)(a1_X a1_Z:BitVec 64)(a1_Phase:Int)(q:Bool):evW 2 (OV F D) F a18 (some [.agg [.i .i64 a0_N,.i .u64 (U a0_X),.i .u64 (U a0_Z),.i .i64 a0_Phase],.agg [.i .i64 a1_N,.i .u64 (U a1_X),.i .u64 (U a1_Z),.i .i64 a1_Phase]]) q G0 =
 match Ppauli_Mul F a0_N a0_X a0_Z a0_Phase a1_N a1_X a1_Z a1_Phase with|none=>none|some (r0,r1,r2,r3,r4)=>some (.tup [.agg [.i .i64 r0,.i .u64 (U r1),.i .u64 (U r2),.i .i64 r3],.i .i64 r4],none):=by
 obtain ⟨D,rfl⟩:=dex hD
 have cpauli_pair0:=epauli_pair (D+2) (by omega) F
 have cpauli_times0:=epauli_times (D+2) (by omega) F
 rw [evW_some,G0]
 simp only [Ppauli_Mul]
 rcases h1:((Ppauli_pair a0_N a0_X a0_Z a0_Phase a1_N a1_X a1_Z a1_Phase)) with _|_
 rotate_left
 rcases h2:(Ppauli_times F a0_N a0_X a0_Z a0_Phase a1_N a1_X a1_Z a1_Phase) with _|⟨r1,r2,r3,r4⟩
 all_goals simp -implicitDefEqProofs only [*,a18,vpauli_pair,vpauli_times,EVA.down,ne_eq,seval]
theorem vpauli_Mul {D F n:Nat}{args:List AV}{h:AHeap}:OV F (D+1) 18 args h n (n+1)=evW 2 (OV F D) F a18 (frzs (frz true 0 (bif AV.nors args then [] else h) 8) args) (AV.nors args) (hglb h 2):=evV_frozen rfl
theorem etb_mul (D:Nat)(hD:4≤D)(F:Nat)(a0_N:Int)(a0_X a0_Z:BitVec 64)(a0_Phase a1_N:Int)(a1_X a1_Z:BitVec 64)(a1_Phase:Int)(q:Bool):evW 2 (OV F D) F a86 (some [.agg [.i .i64 a0_N,.i .u64 (U a0_X),.i .u64 (U a0_Z),.i .i64 a0_Phase],.agg [.i .i64 a1_N,.i .u64 (U a1_X),.i .u64 (U a1_Z),.i .i64 a1_Phase]]) q G0 =
 match Ptb_mul F a0_N a0_X a0_Z a0_Phase a1_N a1_X a1_Z a1_Phase with|none=>none|some (r0,r1,r2,r3)=>some (.agg [.i .i64 r0,.i .u64 (U r1),.i .u64 (U r2),.i .i64 r3],none):=by
 obtain ⟨D,rfl⟩:=dex hD
 have cpauli_Mul0:=epauli_Mul (D+3) (by omega) F
 rw [evW_some,G0]
 simp only [Ptb_mul]
 rcases h1:(Ppauli_Mul F a0_N a0_X a0_Z a0_Phase a1_N a1_X a1_Z a1_Phase) with _|⟨r1,r2,r3,r4,r5⟩
 all_goals simp -implicitDefEqProofs only [*,a86,vpauli_Mul,EVA.down,ne_eq,seval]
theorem vtb_mul {D F n:Nat}{args:List AV}{h:AHeap}:OV F (D+1) 86 args h n (n+1)=evW 2 (OV F D) F a86 (frzs (frz true 0 (bif AV.nors args then [] else h) 8) args) (AV.nors args) (hglb h 2):=evV_frozen rfl
theorem ltb_sureL0 (D:Nat)(hD:5≤D)(F:Nat)(v0:List Pl)(v1 v3:Int)(v4 v5:List Pl)(v6:Int)(v7 v8:BitVec 64)(v9 v10:Int)(v11 v12:BitVec 64)(v13:Int)(K:AE→AS→Option Res):∀ (f:Nat) (v2 v14:Int) (v15 v16:BitVec 64) (v17:Int) (s:AS),s.keep [2,3,4,5,12,13,14] [2,3,4,5]=some ⟨[(2,.lp 2 0),(3,.lp 3 0),(4,.lp 4 0),(5,.lp 5 0),(12,.vs v0.length .unk (enc Pl.cells v0)),(13,.i .i64 v1),(14,.i .i64 v2)],[(2,[.i .i64 v3,.vs v4.length .unk (enc Pl.cells v4),.vs v5.length .unk (enc Pl.cells v5)]),(3,[.i .i64 v6,.i .u64 (U v7),.i .u64 (U v8),.i .i64 v9]),(4,[.i .i64 v10,.i .u64 (U v11),.i .u64 (U v12),.i .i64 v13]),(5,[.i .i64 v14,.i .u64 (U v15),.i .u64 (U v16),.i .i64 v17])],[(0,tab64)],2⟩→
 evLoop (evC (OV F D) 2 F a58L0) f s K=match Ptb_sureL0 F v0 v1 v3 v4 v5 v6 v7 v8 v9 v10 v11 v12 v13 f v2 v14 v15 v16 v17 with|none=>none|some (y0,y1,y2,y3)=>K (.ex 0) ⟨[(4,.lp 4 0),(5,.lp 5 0)],[(4,[.i .i64 v10,.i .u64 (U v11),.i .u64 (U v12),.i .i64 v13]),(5,[.i .i64 y0,.i .u64 (U y1),.i .u64 (U y2),.i .i64 y3])],[(0,tab64)],2⟩:=by
 obtain ⟨D,rfl⟩:=dex hD
 have ctb_commute0:=etb_commute (D+4) (by omega) F
 have ctb_mul0:=etb_mul (D+4) (by omega) F
 intro f
 induction f with
 |zero=>intro v2 v14 v15 v16 v17 s hs;simp only [evLoop,Ptb_sureL0]
 |succ f ih=>
 intro v2 v14 v15 v16 v17 s hs
 obtain ⟨k0,hk,hn,he,hr⟩:=@lk_all (OV F (D+5)) 2 F a58L0 f K
 rw [loop_succ,hk,a58L0,runC_cut,hs]
 clear hs
 simp only [Ptb_sureL0]
 clear hk
 by_cases h1:v2<v1
 rcases ixo (@pk_Pl_cells v0 v2) with h2|⟨x1,h2⟩
 rotate_left
 rcases h3:((Ptb_commute x1.N x1.X x1.Z x1.Ph v6 v7 v8 v9)) with _|_
 rcases ixo (@pk_Pl_cells v4 v2) with h4|⟨x2,h4⟩
 rotate_left
 rcases h5:(Ptb_mul F v14 v15 v16 v17 x2.N x2.X x2.Z x2.Ph) with _|⟨r3,r4,r5,r6⟩
 all_goals simp -implicitDefEqProofs only [*,-ih,vtb_commute,vtb_mul,EVA.down,ne_eq,seval]
 all_goals exact ih _ _ _ _ _ _ (by simp only [*,-ih,vtb_commute,vtb_mul,EVA.down,ne_eq,seval])
theorem etb_sure (D:Nat)(hD:5≤D)(F:Nat)(a0_N:Int)(a0_Stab a0_Destab:List Pl)(a1_N:Int)(a1_X a1_Z:BitVec 64)(a1_Phase:Int)(q:Bool):evW 2 (OV F D) F a58 (some [.agg [.i .i64 a0_N,.vs a0_Stab.length .unk (enc Pl.cells a0_Stab),.vs a0_Destab.length .unk (enc Pl.cells a0_Destab)],.agg [.i .i64 a1_N,.i .u64 (U a1_X),.i .u64 (U a1_Z),.i .i64 a1_Phase]]) q G0 =
 match Ptb_sure F a0_N a0_Stab a0_Destab a1_N a1_X a1_Z a1_Phase with|none=>none|some (r0,r1,r2,r3)=>some (.agg [.i .i64 r0,.i .u64 (U r1),.i .u64 (U r2),.i .i64 r3],none):=by
 obtain ⟨D,rfl⟩:=dex hD
 rw [evW_some,G0]
 simp only [Ptb_sure]
 simp -implicitDefEqProofs only [*,a58,runC_loop,EVA.down,ne_eq,seval]
 rw [ltb_sureL0 (D+5) (by omega) F a0_Destab (a0_Destab.length:Int) a0_N a0_Stab a0_Destab a1_N a1_X a1_Z a1_Phase 0 0#64 0#64 0 _ F 0 a0_N 0#64 0#64 0 _ (by simp only [*,a58,EVA.down,ne_eq,seval];try rfl)]
 rcases h1:(Ptb_sureL0 F a0_Destab (a0_Destab.length:Int) a0_N a0_Stab a0_Destab a1_N a1_X a1_Z a1_Phase 0 0#64 0#64 0 F 0 a0_N 0#64 0#64 0) with _|⟨y1,y2,y3,y4⟩
 all_goals simp -implicitDefEqProofs only [*,a58,EVA.down,ne_eq,seval]
theorem vtb_sure {D F n:Nat}{args:List AV}{h:AHeap}:OV F (D+1) 58 args h n (n+1)=evW 2 (OV F D) F a58 (frzs (frz true 0 (bif AV.nors args then [] else h) 8) args) (AV.nors args) (hglb h 2):=evV_frozen rfl
theorem etb_Odds (D:Nat)(hD:6≤D)(F:Nat)(a0_N:Int)(a0_Stab a0_Destab:List Pl)(a1:Int)(q:Bool):evW 2 (OV F D) F a23 (some [.agg [.i .i64 a0_N,.vs a0_Stab.length .unk (enc Pl.cells a0_Stab),.vs a0_Destab.length .unk (enc Pl.cells a0_Destab)],.i .i64 a1]) q G0 =
 match Ptb_Odds F a0_N a0_Stab a0_Destab a1 with|none=>none|some (r0,r1)=>some (.tup [.i .i64 r0,.i .i64 r1],none):=by
 obtain ⟨D,rfl⟩:=dex hD
 have ctb_asked0:=etb_asked (D+5) (by omega) F
 have ctb_open0:=etb_open (D+5) (by omega) F
 have ctb_sure0:=etb_sure (D+5) (by omega) F
 rw [evW_some,G0]
 simp only [Ptb_Odds]
 rcases h1:(Ptb_asked F a0_N a0_Stab a0_Destab a1) with _|r1
 rotate_left
 by_cases h2:r1=0
 replace h2:=eq_true h2
 rcases h3:(Ptb_open F a0_N a0_Stab a0_Destab a1) with _|r2
 rotate_left
 by_cases h4:r2≥0
 rotate_left
 by_cases h5:a1<0
 rotate_left
 rcases h6:(Ptb_sure F a0_N a0_Stab a0_Destab a0_N 0#64 (1#64 <<< a1.toNat) 0) with _|⟨r3,r4,r5,r6⟩
 all_goals simp -implicitDefEqProofs only [*,a23,vtb_asked,vtb_open,vtb_sure,EVA.down,ne_eq,seval]
theorem vtb_Odds {D F n:Nat}{args:List AV}{h:AHeap}:OV F (D+1) 23 args h n (n+1)=evW 2 (OV F D) F a23 (frzs (frz true 0 (bif AV.nors args then [] else h) 8) args) (AV.nors args) (hglb h 2):=evV_frozen rfl
theorem ltb_replacedL0 (D:Nat)(hD:5≤D)(F:Nat)(v0 v1:List Pl)(v2 v4:Int)(v5 v6:BitVec 64)(v7 v8 v9:Int)(v10 v11:List Pl)(K:AE→AS→Option Res):∀ (f:Nat) (v3:Int) (s:AS),s.keep [0,1,2,3,7,8,9] []=some ⟨[(0,.vs v0.length .unk (enc Pl.cells v0)),(1,.p (some (3,0))),(2,.p (some (4,0))),(3,.p (some (2,0))),(7,.vs v1.length .unk (enc Pl.cells v1)),(8,.i .i64 v2),(9,.i .i64 v3)],[],[(4,⟨true,false,39,4,[.i .i64 v4,.i .u64 (U v5),.i .u64 (U v6),.i .i64 v7]⟩),(3,⟨true,false,3,1,[.i .i64 v8]⟩),(2,⟨true,false,24,3,[.i .i64 v9,.vs v10.length .unk (enc Pl.cells v10),.vs v11.length .unk (enc Pl.cells v11)]⟩),(0,tab64)],5⟩→
 evLoop (evC (OV F D) 2 F a88L0) f s K=match Ptb_replacedL0 F v0 v1 v2 v4 v5 v6 v7 v8 v9 v10 v11 f v3 with|none=>none|some (_)=>K (.ex 0) ⟨[],[],[(4,⟨true,false,39,4,[.i .i64 v4,.i .u64 (U v5),.i .u64 (U v6),.i .i64 v7]⟩),(3,⟨true,false,3,1,[.i .i64 v8]⟩),(2,⟨true,false,24,3,[.i .i64 v9,.vs v10.length .unk (enc Pl.cells v10),.vs v11.length .unk (enc Pl.cells v11)]⟩),(0,tab64)],5⟩:=by
 obtain ⟨D,rfl⟩:=dex hD
 have ctb_commute0:=etb_commute (D+4) (by omega) F
 have ctb_mul0:=etb_mul (D+4) (by omega) F
 intro f
 induction f with
 |zero=>intro v3 s hs;simp only [evLoop,Ptb_replacedL0]
 |succ f ih=>
 intro v3 s hs
 obtain ⟨k0,hk,hn,he,hr⟩:=@lk_all (OV F (D+5)) 2 F a88L0 f K
 rw [loop_succ,hk,a88L0,runC_cut,hs]
 clear hs
 simp only [Ptb_replacedL0]
 clear hk
 by_cases h1:v3<v2
 rcases ixo (@pk_Pl_cells v1 v3) with h2|⟨x1,h2⟩
 rotate_left
 by_cases h3:v3=v8
 replace h3:=eq_true h3
 rotate_left
 rcases h4:((Ptb_commute x1.N x1.X x1.Z x1.Ph v4 v5 v6 v7)) with _|_
 rcases ixo (@pk_Pl_cells v10 v8) with h5|⟨x2,h5⟩
 rotate_left
 rcases h6:(Ptb_mul F x1.N x1.X x1.Z x1.Ph x2.N x2.X x2.Z x2.Ph) with _|⟨r3,r4,r5,r6⟩
 rotate_left
 rcases ixo (@pk_Pl_cells v0 v3) with h7|⟨x7,h7⟩
 all_goals simp -implicitDefEqProofs only [*,-ih,vtb_commute,vtb_mul,EVA.down,ne_eq,seval]
 all_goals exact ih _ _ (by simp only [*,-ih,vtb_commute,vtb_mul,EVA.down,ne_eq,seval])
theorem ltb_replacedL1 (D:Nat)(hD:5≤D)(F:Nat)(v0 v1:List Pl)(v2:Int)(v4:List Pl)(v5:Int)(v6 v7:BitVec 64)(v8 v9 v10:Int)(v11 v12:List Pl)(K:AE→AS→Option Res):∀ (f:Nat) (v3:Int) (s:AS),s.keep [0,1,2,3,7,8,9] []=some ⟨[(0,.vs v0.length .unk (enc Pl.cells v0)),(1,.p (some (3,0))),(2,.p (some (4,0))),(3,.p (some (2,0))),(7,.vs v1.length .unk (enc Pl.cells v1)),(8,.i .i64 v2),(9,.i .i64 v3)],[],[(5,⟨true,true,39,4,enc Pl.cells v4⟩),(4,⟨true,false,39,4,[.i .i64 v5,.i .u64 (U v6),.i .u64 (U v7),.i .i64 v8]⟩),(3,⟨true,false,3,1,[.i .i64 v9]⟩),(2,⟨true,false,24,3,[.i .i64 v10,.vs v11.length .unk (enc Pl.cells v11),.vs v12.length .unk (enc Pl.cells v12)]⟩),(0,tab64)],6⟩→
 evLoop (evC (OV F D) 2 F a88L0) f s K=match Ptb_replacedL1 F v0 v1 v2 v4 v5 v6 v7 v8 v9 v10 v11 v12 f v3 with|none=>none|some (_)=>K (.ex 0) ⟨[],[],[(5,⟨true,true,39,4,enc Pl.cells v4⟩),(4,⟨true,false,39,4,[.i .i64 v5,.i .u64 (U v6),.i .u64 (U v7),.i .i64 v8]⟩),(3,⟨true,false,3,1,[.i .i64 v9]⟩),(2,⟨true,false,24,3,[.i .i64 v10,.vs v11.length .unk (enc Pl.cells v11),.vs v12.length .unk (enc Pl.cells v12)]⟩),(0,tab64)],6⟩:=by
 obtain ⟨D,rfl⟩:=dex hD
 have ctb_commute0:=etb_commute (D+4) (by omega) F
 have ctb_mul0:=etb_mul (D+4) (by omega) F
 intro f
 induction f with
 |zero=>intro v3 s hs;simp only [evLoop,Ptb_replacedL1]
 |succ f ih=>
 intro v3 s hs
 obtain ⟨k0,hk,hn,he,hr⟩:=@lk_all (OV F (D+5)) 2 F a88L0 f K
 rw [loop_succ,hk,a88L0,runC_cut,hs]
 clear hs
 simp only [Ptb_replacedL1]
 clear hk
 by_cases h1:v3<v2
 rcases ixo (@pk_Pl_cells v1 v3) with h2|⟨x1,h2⟩
 rotate_left
 by_cases h3:v3=v9
 replace h3:=eq_true h3
 rotate_left
 rcases h4:((Ptb_commute x1.N x1.X x1.Z x1.Ph v5 v6 v7 v8)) with _|_
 rcases ixo (@pk_Pl_cells v11 v9) with h5|⟨x2,h5⟩
 rotate_left
 rcases h6:(Ptb_mul F x1.N x1.X x1.Z x1.Ph x2.N x2.X x2.Z x2.Ph) with _|⟨r3,r4,r5,r6⟩
 rotate_left
 rcases ixo (@pk_Pl_cells v0 v3) with h7|⟨x7,h7⟩
 all_goals simp -implicitDefEqProofs only [*,-ih,vtb_commute,vtb_mul,EVA.down,ne_eq,seval]
 all_goals exact ih _ _ (by simp only [*,-ih,vtb_commute,vtb_mul,EVA.down,ne_eq,seval])
theorem ltb_replacedL2 (D:Nat)(hD:5≤D)(F:Nat)(v0 v3:Int)(v4 v5:BitVec 64)(v6 v7 v8:Int)(v9 v10:List Pl)(K:AE→AS→Option Res):∀ (f:Nat) (v1:Int) (v2:List Pl) (s:AS),s.keep [0,1,2,3,7,8,9] []=some ⟨[(0,.sl (some (5,0)) v2.length .op),(1,.p (some (3,0))),(2,.p (some (4,0))),(3,.p (some (2,0))),(7,.sl (some (5,0)) v2.length .op),(8,.i .i64 v0),(9,.i .i64 v1)],[],[(5,⟨true,true,39,4,enc Pl.cells v2⟩),(4,⟨true,false,39,4,[.i .i64 v3,.i .u64 (U v4),.i .u64 (U v5),.i .i64 v6]⟩),(3,⟨true,false,3,1,[.i .i64 v7]⟩),(2,⟨true,false,24,3,[.i .i64 v8,.vs v9.length .unk (enc Pl.cells v9),.vs v10.length .unk (enc Pl.cells v10)]⟩),(0,tab64)],6⟩→
 evLoop (evC (OV F D) 2 F a88L0) f s K=match Ptb_replacedL2 F v0 v3 v4 v5 v6 v7 v8 v9 v10 f v1 v2 with|none=>none|some (y0)=>K (.ex 0) ⟨[],[],[(5,⟨true,true,39,4,enc Pl.cells y0⟩),(4,⟨true,false,39,4,[.i .i64 v3,.i .u64 (U v4),.i .u64 (U v5),.i .i64 v6]⟩),(3,⟨true,false,3,1,[.i .i64 v7]⟩),(2,⟨true,false,24,3,[.i .i64 v8,.vs v9.length .unk (enc Pl.cells v9),.vs v10.length .unk (enc Pl.cells v10)]⟩),(0,tab64)],6⟩:=by
 obtain ⟨D,rfl⟩:=dex hD
 have ctb_commute0:=etb_commute (D+4) (by omega) F
 have ctb_mul0:=etb_mul (D+4) (by omega) F
 intro f
 induction f with
 |zero=>intro v1 v2 s hs;simp only [evLoop,Ptb_replacedL2]
 |succ f ih=>
 intro v1 v2 s hs
 obtain ⟨k0,hk,hn,he,hr⟩:=@lk_all (OV F (D+5)) 2 F a88L0 f K
 rw [loop_succ,hk,a88L0,runC_cut,hs]
 clear hs
 simp only [Ptb_replacedL2]
 clear hk
 by_cases h1:v1<v0
 rcases ixo (@pk_Pl_cells v2 v1) with h2|⟨x1,h2⟩
 rotate_left
 by_cases h3:v1=v7
 replace h3:=eq_true h3
 rotate_left
 rcases h4:((Ptb_commute x1.N x1.X x1.Z x1.Ph v3 v4 v5 v6)) with _|_
 rcases ixo (@pk_Pl_cells v9 v7) with h5|⟨x2,h5⟩
 rotate_left
 rcases h6:(Ptb_mul F x1.N x1.X x1.Z x1.Ph x2.N x2.X x2.Z x2.Ph) with _|⟨r3,r4,r5,r6⟩
 rotate_left
 have h7:v1.toNat*4+4≤v2.length*4:=by have:=(idx_some h2.1).2.1;omega
 have h8:splice (enc Pl.cells v2) (v1.toNat*4) [.i .i64 r3,.i .u64 (U r4),.i .u64 (U r5),.i .i64 r6]=enc Pl.cells ((v2).set v1.toNat (⟨r3,r4,r5,r6⟩:Pl)):=own_put len_Pl_cells h2.1 (⟨r3,r4,r5,r6⟩:Pl)
 all_goals simp -implicitDefEqProofs only [*,-ih,vtb_commute,vtb_mul,EVA.down,ne_eq,seval]
 all_goals exact ih _ _ _ (by simp only [*,-ih,vtb_commute,vtb_mul,EVA.down,ne_eq,seval])
theorem ltb_replacedL3 (D:Nat)(hD:5≤D)(F:Nat)(v0:Int)(v3:List Pl)(v4:Int)(v5 v6:BitVec 64)(v7 v8 v9:Int)(v10 v11:List Pl)(K:AE→AS→Option Res):∀ (f:Nat) (v1:Int) (v2:List Pl) (s:AS),s.keep [0,1,2,3,7,8,9] []=some ⟨[(0,.sl (some (5,0)) v2.length .op),(1,.p (some (3,0))),(2,.p (some (4,0))),(3,.p (some (2,0))),(7,.sl (some (5,0)) v2.length .op),(8,.i .i64 v0),(9,.i .i64 v1)],[],[(5,⟨true,true,39,4,enc Pl.cells v2⟩),(6,⟨true,true,39,4,enc Pl.cells v3⟩),(4,⟨true,false,39,4,[.i .i64 v4,.i .u64 (U v5),.i .u64 (U v6),.i .i64 v7]⟩),(3,⟨true,false,3,1,[.i .i64 v8]⟩),(2,⟨true,false,24,3,[.i .i64 v9,.vs v10.length .unk (enc Pl.cells v10),.vs v11.length .unk (enc Pl.cells v11)]⟩),(0,tab64)],7⟩→
 evLoop (evC (OV F D) 2 F a88L0) f s K=match Ptb_replacedL3 F v0 v3 v4 v5 v6 v7 v8 v9 v10 v11 f v1 v2 with|none=>none|some (y0)=>K (.ex 0) ⟨[],[],[(5,⟨true,true,39,4,enc Pl.cells y0⟩),(6,⟨true,true,39,4,enc Pl.cells v3⟩),(4,⟨true,false,39,4,[.i .i64 v4,.i .u64 (U v5),.i .u64 (U v6),.i .i64 v7]⟩),(3,⟨true,false,3,1,[.i .i64 v8]⟩),(2,⟨true,false,24,3,[.i .i64 v9,.vs v10.length .unk (enc Pl.cells v10),.vs v11.length .unk (enc Pl.cells v11)]⟩),(0,tab64)],7⟩:=by
 obtain ⟨D,rfl⟩:=dex hD
 have ctb_commute0:=etb_commute (D+4) (by omega) F
 have ctb_mul0:=etb_mul (D+4) (by omega) F
 intro f
 induction f with
 |zero=>intro v1 v2 s hs;simp only [evLoop,Ptb_replacedL3]
 |succ f ih=>
 intro v1 v2 s hs
 obtain ⟨k0,hk,hn,he,hr⟩:=@lk_all (OV F (D+5)) 2 F a88L0 f K
 rw [loop_succ,hk,a88L0,runC_cut,hs]
 clear hs
 simp only [Ptb_replacedL3]
 clear hk
 by_cases h1:v1<v0
 rcases ixo (@pk_Pl_cells v2 v1) with h2|⟨x1,h2⟩
 rotate_left
 by_cases h3:v1=v8
 replace h3:=eq_true h3
 rotate_left
 rcases h4:((Ptb_commute x1.N x1.X x1.Z x1.Ph v4 v5 v6 v7)) with _|_
 rcases ixo (@pk_Pl_cells v10 v8) with h5|⟨x2,h5⟩
 rotate_left
 rcases h6:(Ptb_mul F x1.N x1.X x1.Z x1.Ph x2.N x2.X x2.Z x2.Ph) with _|⟨r3,r4,r5,r6⟩
 rotate_left
 have h7:v1.toNat*4+4≤v2.length*4:=by have:=(idx_some h2.1).2.1;omega
 have h8:splice (enc Pl.cells v2) (v1.toNat*4) [.i .i64 r3,.i .u64 (U r4),.i .u64 (U r5),.i .i64 r6]=enc Pl.cells ((v2).set v1.toNat (⟨r3,r4,r5,r6⟩:Pl)):=own_put len_Pl_cells h2.1 (⟨r3,r4,r5,r6⟩:Pl)
 all_goals simp -implicitDefEqProofs only [*,-ih,vtb_commute,vtb_mul,EVA.down,ne_eq,seval]
 all_goals exact ih _ _ _ (by simp only [*,-ih,vtb_commute,vtb_mul,EVA.down,ne_eq,seval])
theorem ltb_replacedL4 (D:Nat)(hD:5≤D)(F:Nat)(v0:Int)(v2:List Pl)(v4:Int)(v5 v6:BitVec 64)(v7 v8 v9:Int)(v10 v11:List Pl)(K:AE→AS→Option Res):∀ (f:Nat) (v1:Int) (v3:List Pl) (s:AS),s.keep [0,1,2,3,7,8,9] []=some ⟨[(0,.sl (some (6,0)) v3.length .op),(1,.p (some (3,0))),(2,.p (some (4,0))),(3,.p (some (2,0))),(7,.sl (some (6,0)) v3.length .op),(8,.i .i64 v0),(9,.i .i64 v1)],[],[(5,⟨true,true,39,4,enc Pl.cells v2⟩),(6,⟨true,true,39,4,enc Pl.cells v3⟩),(4,⟨true,false,39,4,[.i .i64 v4,.i .u64 (U v5),.i .u64 (U v6),.i .i64 v7]⟩),(3,⟨true,false,3,1,[.i .i64 v8]⟩),(2,⟨true,false,24,3,[.i .i64 v9,.vs v10.length .unk (enc Pl.cells v10),.vs v11.length .unk (enc Pl.cells v11)]⟩),(0,tab64)],7⟩→
 evLoop (evC (OV F D) 2 F a88L0) f s K=match Ptb_replacedL4 F v0 v2 v4 v5 v6 v7 v8 v9 v10 v11 f v1 v3 with|none=>none|some (y0)=>K (.ex 0) ⟨[],[],[(5,⟨true,true,39,4,enc Pl.cells v2⟩),(6,⟨true,true,39,4,enc Pl.cells y0⟩),(4,⟨true,false,39,4,[.i .i64 v4,.i .u64 (U v5),.i .u64 (U v6),.i .i64 v7]⟩),(3,⟨true,false,3,1,[.i .i64 v8]⟩),(2,⟨true,false,24,3,[.i .i64 v9,.vs v10.length .unk (enc Pl.cells v10),.vs v11.length .unk (enc Pl.cells v11)]⟩),(0,tab64)],7⟩:=by
 obtain ⟨D,rfl⟩:=dex hD
 have ctb_commute0:=etb_commute (D+4) (by omega) F
 have ctb_mul0:=etb_mul (D+4) (by omega) F
 intro f
 induction f with
 |zero=>intro v1 v3 s hs;simp only [evLoop,Ptb_replacedL4]
 |succ f ih=>
 intro v1 v3 s hs
 obtain ⟨k0,hk,hn,he,hr⟩:=@lk_all (OV F (D+5)) 2 F a88L0 f K
 rw [loop_succ,hk,a88L0,runC_cut,hs]
 clear hs
 simp only [Ptb_replacedL4]
 clear hk
 by_cases h1:v1<v0
 rcases ixo (@pk_Pl_cells v3 v1) with h2|⟨x1,h2⟩
 rotate_left
 by_cases h3:v1=v8
 replace h3:=eq_true h3
 rotate_left
 rcases h4:((Ptb_commute x1.N x1.X x1.Z x1.Ph v4 v5 v6 v7)) with _|_
 rcases ixo (@pk_Pl_cells v10 v8) with h5|⟨x2,h5⟩
 rotate_left
 rcases h6:(Ptb_mul F x1.N x1.X x1.Z x1.Ph x2.N x2.X x2.Z x2.Ph) with _|⟨r3,r4,r5,r6⟩
 rotate_left
 have h7:v1.toNat*4+4≤v3.length*4:=by have:=(idx_some h2.1).2.1;omega
 have h8:splice (enc Pl.cells v3) (v1.toNat*4) [.i .i64 r3,.i .u64 (U r4),.i .u64 (U r5),.i .i64 r6]=enc Pl.cells ((v3).set v1.toNat (⟨r3,r4,r5,r6⟩:Pl)):=own_put len_Pl_cells h2.1 (⟨r3,r4,r5,r6⟩:Pl)
 all_goals simp -implicitDefEqProofs only [*,-ih,vtb_commute,vtb_mul,EVA.down,ne_eq,seval]
 all_goals exact ih _ _ _ (by simp only [*,-ih,vtb_commute,vtb_mul,EVA.down,ne_eq,seval])
theorem xtb_replaced_1 {D F n fl:Nat}{args:List AV}{h:AHeap}(h1:fl≠n)(h2:fl≠n+1):OV F (D+1) 88 args h n fl=match evFn (OV F D) fl F a88 args h n with|some (v,h',n')=>some (v,some (h',n'))|none=>none:=evV_write rfl rfl h1 h2
theorem etb_replaced (D:Nat)(hD:6≤D)(F:Nat)(a0_N:Int)(a0_Stab a0_Destab:List Pl)(a1 a2_N:Int)(a2_X a2_Z:BitVec 64)(a2_Phase:Int)(q:Bool):evW 2 (OV F D) F a59 (some [.agg [.i .i64 a0_N,.vs a0_Stab.length .unk (enc Pl.cells a0_Stab),.vs a0_Destab.length .unk (enc Pl.cells a0_Destab)],.i .i64 a1,.agg [.i .i64 a2_N,.i .u64 (U a2_X),.i .u64 (U a2_Z),.i .i64 a2_Phase]]) q G0 =
 match Ptb_replaced F a0_N a0_Stab a0_Destab a1 a2_N a2_X a2_Z a2_Phase with|none=>none|some (r0,r1,r2)=>some (.agg [.i .i64 r0,.vs r1.length .unk (enc Pl.cells r1),.vs r2.length .unk (enc Pl.cells r2)],none):=by
 obtain ⟨D,rfl⟩:=dex hD
 have ctb_copiedo0:=etb_copiedo (D+5) (by omega) F
 rw [evW_some,G0]
 simp only [Ptb_replaced]
 rcases h1:(Ptb_copied a0_N a0_Stab a0_Destab) with _|⟨r1,r2,r3⟩
 rotate_left
 by_cases h2:r2=[]
 replace h2:=eq_true h2
 by_cases h3:r3=[]
 replace h3:=eq_true h3
 simp -implicitDefEqProofs only [*,a59,vtb_copiedo,a88,xtb_replaced_1,runC_loop,EVA.down,ne_eq,seval]
 rw [ltb_replacedL0 (D+5) (by omega) F ([]) ([]) 0 a2_N a2_X a2_Z a2_Phase a1 a0_N a0_Stab a0_Destab _ F 0 _ (by simp only [*,a59,vtb_copiedo,a88,xtb_replaced_1,EVA.down,ne_eq,seval];try rfl)]
 rcases h4:(Ptb_replacedL0 F ([]) ([]) 0 a2_N a2_X a2_Z a2_Phase a1 a0_N a0_Stab a0_Destab F 0) with _|_
 rotate_left
 simp -implicitDefEqProofs only [*,a59,vtb_copiedo,a88,xtb_replaced_1,runC_loop,EVA.down,ne_eq,seval]
 rw [ltb_replacedL0 (D+5) (by omega) F ([]) ([]) 0 a2_N a2_X a2_Z a2_Phase a1 a0_N a0_Stab a0_Destab _ F 0 _ (by simp only [*,a59,vtb_copiedo,a88,xtb_replaced_1,EVA.down,ne_eq,seval];try rfl)]
 rw [h4]
 rcases ixo (@pk_Pl_cells a0_Stab a1) with h6|⟨x4,h6⟩
 rotate_left
 have h7:inb a1 0=false:=by simp only [inb,Bool.and_eq_false_iff,decide_eq_false_iff_not];omega
 rotate_left
 simp -implicitDefEqProofs only [*,a59,vtb_copiedo,a88,xtb_replaced_1,runC_loop,EVA.down,ne_eq,seval]
 rw [ltb_replacedL1 (D+5) (by omega) F ([]) ([]) 0 r3 a2_N a2_X a2_Z a2_Phase a1 a0_N a0_Stab a0_Destab _ F 0 _ (by simp only [*,a59,vtb_copiedo,a88,xtb_replaced_1,EVA.down,ne_eq,seval];try rfl)]
 rcases h8:(Ptb_replacedL1 F ([]) ([]) 0 r3 a2_N a2_X a2_Z a2_Phase a1 a0_N a0_Stab a0_Destab F 0) with _|_
 rotate_left
 simp -implicitDefEqProofs only [*,a59,vtb_copiedo,a88,xtb_replaced_1,runC_loop,EVA.down,ne_eq,seval]
 rw [ltb_replacedL2 (D+5) (by omega) F ((r3.length:Nat):Int) a2_N a2_X a2_Z a2_Phase a1 a0_N a0_Stab a0_Destab _ F 0 r3 _ (by simp only [*,a59,vtb_copiedo,a88,xtb_replaced_1,EVA.down,ne_eq,seval];try rfl)]
 rcases h9:(Ptb_replacedL2 F ((r3.length:Nat):Int) a2_N a2_X a2_Z a2_Phase a1 a0_N a0_Stab a0_Destab F 0 r3) with _|y5
 rotate_left
 have h9l0:y5.length=r3.length:=by have q:=ltb_replacedL2n0_0 F ((r3.length:Nat):Int) a2_N a2_X a2_Z a2_Phase a1 a0_N a0_Stab a0_Destab F 0 r3 y5 h9;simpa only [List.length_set] using q
 have h9t0:=len_facts h9l0
 rcases ixo (@pk_Pl_cells a0_Stab a1) with h10|⟨x6,h10⟩
 rotate_left
 rcases h11:(idx y5 a1) with _|x7
 have h11o:inb a1 r3.length=false:=by have q:=idx_out h11;simpa only [List.length_set,h9l0] using q
 first|exact absurd (show inb a1 r3.length=true by simp only [*,-h11o]) (by rw [h11o];exact Bool.false_ne_true)|rotate_left
 have h11i:inb a1 r3.length=true:=by have q:=idx_inb h11;simpa only [List.length_set,h9l0] using q
 replace h11:=pk_Pl_cells h11
 have h12:a1.toNat*4+4≤r3.length*4:=by have:=(idx_some h11.1).2.1;(try simp only [List.length_set] at this);omega
 have h13:splice (enc Pl.cells y5) (a1.toNat*4) [.i .i64 x6.N,.i .u64 (U x6.X),.i .u64 (U x6.Z),.i .i64 x6.Ph]=enc Pl.cells ((y5).set a1.toNat x6):=own_put len_Pl_cells h11.1 x6
 have h14:inb a1 0=false:=by simp only [inb,Bool.and_eq_false_iff,decide_eq_false_iff_not];omega
 rotate_left
 by_cases h15:r3=[]
 replace h15:=eq_true h15
 simp -implicitDefEqProofs only [*,a59,vtb_copiedo,a88,xtb_replaced_1,runC_loop,EVA.down,ne_eq,seval]
 rw [ltb_replacedL2 (D+5) (by omega) F ((r2.length:Nat):Int) a2_N a2_X a2_Z a2_Phase a1 a0_N a0_Stab a0_Destab _ F 0 r2 _ (by simp only [*,a59,vtb_copiedo,a88,xtb_replaced_1,EVA.down,ne_eq,seval];try rfl)]
 rcases h16:(Ptb_replacedL2 F ((r2.length:Nat):Int) a2_N a2_X a2_Z a2_Phase a1 a0_N a0_Stab a0_Destab F 0 r2) with _|y8
 rotate_left
 have h16l0:y8.length=r2.length:=by have q:=ltb_replacedL2n0_0 F ((r2.length:Nat):Int) a2_N a2_X a2_Z a2_Phase a1 a0_N a0_Stab a0_Destab F 0 r2 y8 h16;simpa only [List.length_set] using q
 have h16t0:=len_facts h16l0
 simp -implicitDefEqProofs only [*,a59,vtb_copiedo,a88,xtb_replaced_1,runC_loop,EVA.down,ne_eq,seval]
 rw [ltb_replacedL1 (D+5) (by omega) F ([]) ([]) 0 y8 a2_N a2_X a2_Z a2_Phase a1 a0_N a0_Stab a0_Destab _ F 0 _ (by simp only [*,a59,vtb_copiedo,a88,xtb_replaced_1,EVA.down,ne_eq,seval];try rfl)]
 rcases h17:(Ptb_replacedL1 F ([]) ([]) 0 y8 a2_N a2_X a2_Z a2_Phase a1 a0_N a0_Stab a0_Destab F 0) with _|_
 rotate_left
 rcases ixo (@pk_Pl_cells a0_Stab a1) with h18|⟨x9,h18⟩
 rotate_left
 have h19:inb a1 0=false:=by simp only [inb,Bool.and_eq_false_iff,decide_eq_false_iff_not];omega
 rotate_left
 simp -implicitDefEqProofs only [*,a59,vtb_copiedo,a88,xtb_replaced_1,runC_loop,EVA.down,ne_eq,seval]
 rw [ltb_replacedL3 (D+5) (by omega) F ((r2.length:Nat):Int) r3 a2_N a2_X a2_Z a2_Phase a1 a0_N a0_Stab a0_Destab _ F 0 r2 _ (by simp only [*,a59,vtb_copiedo,a88,xtb_replaced_1,EVA.down,ne_eq,seval];try rfl)]
 rcases h20:(Ptb_replacedL3 F ((r2.length:Nat):Int) r3 a2_N a2_X a2_Z a2_Phase a1 a0_N a0_Stab a0_Destab F 0 r2) with _|y10
 rotate_left
 have h20l0:y10.length=r2.length:=by have q:=ltb_replacedL3n0_0 F ((r2.length:Nat):Int) r3 a2_N a2_X a2_Z a2_Phase a1 a0_N a0_Stab a0_Destab F 0 r2 y10 h20;simpa only [List.length_set] using q
 have h20t0:=len_facts h20l0
 simp -implicitDefEqProofs only [*,a59,vtb_copiedo,a88,xtb_replaced_1,runC_loop,EVA.down,ne_eq,seval]
 rw [ltb_replacedL4 (D+5) (by omega) F ((r3.length:Nat):Int) y10 a2_N a2_X a2_Z a2_Phase a1 a0_N a0_Stab a0_Destab _ F 0 r3 _ (by simp only [*,a59,vtb_copiedo,a88,xtb_replaced_1,EVA.down,ne_eq,seval];try rfl)]
 rcases h21:(Ptb_replacedL4 F ((r3.length:Nat):Int) y10 a2_N a2_X a2_Z a2_Phase a1 a0_N a0_Stab a0_Destab F 0 r3) with _|y11
 rotate_left
 have h21l0:y11.length=r3.length:=by have q:=ltb_replacedL4n0_0 F ((r3.length:Nat):Int) y10 a2_N a2_X a2_Z a2_Phase a1 a0_N a0_Stab a0_Destab F 0 r3 y11 h21;simpa only [List.length_set,h20l0] using q
 have h21t0:=len_facts h21l0
 rcases ixo (@pk_Pl_cells a0_Stab a1) with h22|⟨x12,h22⟩
 rotate_left
 rcases h23:(idx y11 a1) with _|x13
 have h23o:inb a1 r3.length=false:=by have q:=idx_out h23;simpa only [List.length_set,h20l0,h21l0] using q
 first|exact absurd (show inb a1 r3.length=true by simp only [*,-h23o]) (by rw [h23o];exact Bool.false_ne_true)|rotate_left
 have h23i:inb a1 r3.length=true:=by have q:=idx_inb h23;simpa only [List.length_set,h20l0,h21l0] using q
 replace h23:=pk_Pl_cells h23
 have h24:a1.toNat*4+4≤r3.length*4:=by have:=(idx_some h23.1).2.1;(try simp only [List.length_set] at this);omega
 have h25:splice (enc Pl.cells y11) (a1.toNat*4) [.i .i64 x12.N,.i .u64 (U x12.X),.i .u64 (U x12.Z),.i .i64 x12.Ph]=enc Pl.cells ((y11).set a1.toNat x12):=own_put len_Pl_cells h23.1 x12
 rcases h26:(idx y10 a1) with _|x14
 have h26o:inb a1 r2.length=false:=by have q:=idx_out h26;simpa only [List.length_set,h20l0,h21l0] using q
 first|exact absurd (show inb a1 r2.length=true by simp only [*,-h26o]) (by rw [h26o];exact Bool.false_ne_true)|rotate_left
 have h26i:inb a1 r2.length=true:=by have q:=idx_inb h26;simpa only [List.length_set,h20l0,h21l0] using q
 replace h26:=pk_Pl_cells h26
 have h27:a1.toNat*4+4≤r2.length*4:=by have:=(idx_some h26.1).2.1;(try simp only [List.length_set] at this);omega
 have h28:splice (enc Pl.cells y10) (a1.toNat*4) [.i .i64 a2_N,.i .u64 (U a2_X),.i .u64 (U a2_Z),.i .i64 a2_Phase]=enc Pl.cells ((y10).set a1.toNat (⟨a2_N,a2_X,a2_Z,a2_Phase⟩:Pl)):=own_put len_Pl_cells h26.1 (⟨a2_N,a2_X,a2_Z,a2_Phase⟩:Pl)
 all_goals simp -implicitDefEqProofs only [*,a59,vtb_copiedo,a88,xtb_replaced_1,EVA.down,ne_eq,seval]
theorem vtb_replaced {D F n:Nat}{args:List AV}{h:AHeap}:OV F (D+1) 59 args h n (n+1)=evW 2 (OV F D) F a59 (frzs (frz true 0 (bif AV.nors args then [] else h) 8) args) (AV.nors args) (hglb h 2):=evV_frozen rfl
theorem etb_Project (D:Nat)(hD:7≤D)(F:Nat)(a0_N:Int)(a0_Stab a0_Destab:List Pl)(a1 a2:Int):evW 2 (OV F D) F a24 (some [.agg [.i .i64 a0_N,.vs a0_Stab.length .unk (enc Pl.cells a0_Stab),.vs a0_Destab.length .unk (enc Pl.cells a0_Destab)],.i .i64 a1,.i .i64 a2]) true G0 =
 match Ptb_Project F a0_N a0_Stab a0_Destab a1 a2 with|none=>none|some (r0,r1,r2,r3)=>some (.tup [.agg [.i .i64 r0,.vs r1.length .unk (enc Pl.cells r1),.vs r2.length .unk (enc Pl.cells r2)],.i .i64 r3],none):=by
 obtain ⟨D,rfl⟩:=dex hD
 have ctb_Odds0:=etb_Odds (D+6) (by omega) F
 have ctb_copied0:=etb_copied (D+6) (by omega) F
 have ctb_open0:=etb_open (D+6) (by omega) F
 have ctb_replaced0:=etb_replaced (D+6) (by omega) F
 rw [evW_some,G0]
 simp only [Ptb_Project]
 rcases h1:(Ptb_Odds F a0_N a0_Stab a0_Destab a1) with _|⟨r1,r2⟩
 rotate_left
 by_cases h2:r2=0
 replace h2:=eq_true h2
 by_cases h3:a2=0
 replace h3:=eq_true h3
 by_cases h4:r1=(IntKind.i64.wrap (1-a2))
 replace h4:=eq_true h4
 rotate_left
 by_cases h5:r1=a2
 replace h5:=eq_true h5
 rcases h6:(Ptb_copied a0_N a0_Stab a0_Destab) with _|⟨r3,r4,r5⟩
 rotate_left
 rotate_left
 rcases h7:(Ptb_open F a0_N a0_Stab a0_Destab a1) with _|r6
 rotate_left
 by_cases h8:a1<0
 rotate_left
 rcases h9:(Ptb_replaced F a0_N a0_Stab a0_Destab r6 a0_N 0#64 (1#64 <<< a1.toNat) (IntKind.i64.wrap (2*a2))) with _|⟨r7,r8,r9⟩
 rotate_left
 rotate_left
 by_cases h10:a2=1
 replace h10:=eq_true h10
 by_cases h11:r1=(IntKind.i64.wrap (1-a2))
 replace h11:=eq_true h11
 rotate_left
 by_cases h12:r1=a2
 replace h12:=eq_true h12
 rcases h13:(Ptb_copied a0_N a0_Stab a0_Destab) with _|⟨r10,r11,r12⟩
 rotate_left
 rotate_left
 rcases h14:(Ptb_open F a0_N a0_Stab a0_Destab a1) with _|r13
 rotate_left
 by_cases h15:a1<0
 rotate_left
 rcases h16:(Ptb_replaced F a0_N a0_Stab a0_Destab r13 a0_N 0#64 (1#64 <<< a1.toNat) (IntKind.i64.wrap (2*a2))) with _|⟨r14,r15,r16⟩
 all_goals simp -implicitDefEqProofs only [*,a24,vtb_Odds,vtb_copied,vtb_open,vtb_replaced,EVA.down,ne_eq,seval]
theorem vtb_Project {D F n:Nat}{args:List AV}{h:AHeap}:OV F (D+1) 24 args h n (n+1)=evW 2 (OV F D) F a24 (frzs (frz true 0 (bif AV.nors args then [] else h) 8) args) (AV.nors args) (hglb h 2):=evV_frozen rfl
theorem eref14_letter (D:Nat)(hD:0≤D)(F:Nat)(a0 a1:Int)(a2 q:Bool):evW 2 (OV F D) F a38 (some [.i .i64 a0,.i .i64 a1,.b a2]) q G0 =
 match Pref14_letter a0 a1 a2 with|(r0,r1,r2,r3)=>some (.agg [.i .i64 r0,.i .u64 (U r1),.i .u64 (U r2),.i .i64 r3],none):=by
 rw [evW_some,G0]
 simp only [Pref14_letter]
 rcases h1:(a2) with _|_
 all_goals simp -implicitDefEqProofs only [*,a38,EVA.down,ne_eq,seval]
theorem vref14_letter {D F n:Nat}{args:List AV}{h:AHeap}:OV F (D+1) 38 args h n (n+1)=evW 2 (OV F D) F a38 (frzs (frz true 0 (bif AV.nors args then [] else h) 8) args) (AV.nors args) (hglb h 2):=evV_frozen rfl
theorem lref14_looseL0 (D:Nat)(hD:1≤D)(F:Nat)(v1:Int)(v2 v3:List Pl)(v4:Int)(v5 v6:BitVec 64)(v7:Int)(K:AE→AS→Option Res):∀ (f:Nat) (v0:Int) (s:AS),s.keep [2,3,5] [2,3]=some ⟨[(2,.lp 2 0),(3,.lp 3 0),(5,.i .i64 v0)],[(2,[.i .i64 v1,.vs v2.length .unk (enc Pl.cells v2),.vs v3.length .unk (enc Pl.cells v3)]),(3,[.i .i64 v4,.i .u64 (U v5),.i .u64 (U v6),.i .i64 v7])],[(0,tab64)],2⟩→
 evLoop (evC (OV F D) 2 F a63L0) f s K=match Pref14_looseL0 F v1 v2 v3 v4 v5 v6 v7 f v0 with|none=>none|some (.inl y0)=>K .ret ⟨[(4,.i .i64 y0)],[],[(0,tab64)],2⟩|some (.inr _)=>K (.ex 0) ⟨[],[],[(0,tab64)],2⟩:=by
 obtain ⟨D,rfl⟩:=dex hD
 have cref14_commute0:=eref14_commute (D) (by omega) F
 intro f
 induction f with
 |zero=>intro v0 s hs;simp only [evLoop,Pref14_looseL0]
 |succ f ih=>
 intro v0 s hs
 obtain ⟨k0,hk,hn,he,hr⟩:=@lk_all (OV F (D+1)) 2 F a63L0 f K
 rw [loop_succ,hk,a63L0,runC_cut,hs]
 clear hs
 simp only [Pref14_looseL0]
 clear hk
 by_cases h1:v0<v1
 rcases ixo (@pk_Pl_cells v2 v0) with h2|⟨x1,h2⟩
 rotate_left
 rcases h3:(Pref14_commute F x1.N x1.X x1.Z x1.Ph v4 v5 v6 v7) with _|r2
 rotate_left
 rcases h4:(r2) with _|_
 all_goals simp -implicitDefEqProofs only [*,-ih,vref14_commute,EVA.down,ne_eq,seval]
 all_goals exact ih _ _ (by simp only [*,-ih,vref14_commute,EVA.down,ne_eq,seval])
theorem eref14_loose (D:Nat)(hD:1≤D)(F:Nat)(a0_N:Int)(a0_Stab a0_Destab:List Pl)(a1_N:Int)(a1_X a1_Z:BitVec 64)(a1_Phase:Int)(q:Bool):evW 2 (OV F D) F a63 (some [.agg [.i .i64 a0_N,.vs a0_Stab.length .unk (enc Pl.cells a0_Stab),.vs a0_Destab.length .unk (enc Pl.cells a0_Destab)],.agg [.i .i64 a1_N,.i .u64 (U a1_X),.i .u64 (U a1_Z),.i .i64 a1_Phase]]) q G0 =
 match Pref14_loose F a0_N a0_Stab a0_Destab a1_N a1_X a1_Z a1_Phase with|none=>none|some r0=>some (.i .i64 r0,none):=by
 obtain ⟨D,rfl⟩:=dex hD
 rw [evW_some,G0]
 simp only [Pref14_loose]
 simp -implicitDefEqProofs only [*,a63,runC_loop,EVA.down,ne_eq,seval]
 rw [lref14_looseL0 (D+1) (by omega) F a0_N a0_Stab a0_Destab a1_N a1_X a1_Z a1_Phase _ F 0 _ (by simp only [*,a63,EVA.down,ne_eq,seval];try rfl)]
 rcases h1:(Pref14_looseL0 F a0_N a0_Stab a0_Destab a1_N a1_X a1_Z a1_Phase F 0) with _|(y1|_)
 all_goals simp -implicitDefEqProofs only [*,a63,EVA.down,ne_eq,seval]
theorem vref14_loose {D F n:Nat}{args:List AV}{h:AHeap}:OV F (D+1) 63 args h n (n+1)=evW 2 (OV F D) F a63 (frzs (frz true 0 (bif AV.nors args then [] else h) 8) args) (AV.nors args) (hglb h 2):=evV_frozen rfl
theorem eref14_times (D:Nat)(hD:4≤D)(F:Nat)(a0_N:Int)(a0_X a0_Z:BitVec 64)(a0_Phase a1_N:Int)(a1_X a1_Z:BitVec 64)(a1_Phase:Int)(q:Bool):evW 2 (OV F D) F a64 (some [.agg [.i .i64 a0_N,.i .u64 (U a0_X),.i .u64 (U a0_Z),.i .i64 a0_Phase],.agg [.i .i64 a1_N,.i .u64 (U a1_X),.i .u64 (U a1_Z),.i .i64 a1_Phase]]) q G0 =
 match Pref14_times F a0_N a0_X a0_Z a0_Phase a1_N a1_X a1_Z a1_Phase with|none=>none|some (r0,r1,r2,r3)=>some (.agg [.i .i64 r0,.i .u64 (U r1),.i .u64 (U r2),.i .i64 r3],none):=by
 obtain ⟨D,rfl⟩:=dex hD
 have cref13_Mul0:=eref13_Mul (D+3) (by omega) F
 rw [evW_some,G0]
 simp only [Pref14_times]
 rcases h1:(Pref13_Mul F a0_N a0_X a0_Z a0_Phase a1_N a1_X a1_Z a1_Phase) with _|⟨r1,r2,r3,r4,r5⟩
 all_goals simp -implicitDefEqProofs only [*,a64,vref13_Mul,EVA.down,ne_eq,seval]
theorem vref14_times {D F n:Nat}{args:List AV}{h:AHeap}:OV F (D+1) 64 args h n (n+1)=evW 2 (OV F D) F a64 (frzs (frz true 0 (bif AV.nors args then [] else h) 8) args) (AV.nors args) (hglb h 2):=evV_frozen rfl
theorem lref14_signL0 (D:Nat)(hD:5≤D)(F:Nat)(v1:Int)(v2 v3:List Pl)(v4:Int)(v5 v6:BitVec 64)(v7:Int)(K:AE→AS→Option Res):∀ (f:Nat) (v0 v8:Int) (v9 v10:BitVec 64) (v11:Int) (s:AS),s.keep [2,3,5,6] [2,3,5]=some ⟨[(2,.lp 2 0),(3,.lp 3 0),(5,.lp 5 0),(6,.i .i64 v0)],[(2,[.i .i64 v1,.vs v2.length .unk (enc Pl.cells v2),.vs v3.length .unk (enc Pl.cells v3)]),(3,[.i .i64 v4,.i .u64 (U v5),.i .u64 (U v6),.i .i64 v7]),(5,[.i .i64 v8,.i .u64 (U v9),.i .u64 (U v10),.i .i64 v11])],[(0,tab64)],2⟩→
 evLoop (evC (OV F D) 2 F a89L0) f s K=match Pref14_signL0 F v1 v2 v3 v4 v5 v6 v7 f v0 v8 v9 v10 v11 with|none=>none|some (y0,y1,y2,y3)=>K (.ex 0) ⟨[(3,.lp 3 0),(5,.lp 5 0)],[(3,[.i .i64 v4,.i .u64 (U v5),.i .u64 (U v6),.i .i64 v7]),(5,[.i .i64 y0,.i .u64 (U y1),.i .u64 (U y2),.i .i64 y3])],[(0,tab64)],2⟩:=by
 obtain ⟨D,rfl⟩:=dex hD
 have cref14_commute0:=eref14_commute (D+4) (by omega) F
 have cref14_times0:=eref14_times (D+4) (by omega) F
 intro f
 induction f with
 |zero=>intro v0 v8 v9 v10 v11 s hs;simp only [evLoop,Pref14_signL0]
 |succ f ih=>
 intro v0 v8 v9 v10 v11 s hs
 obtain ⟨k0,hk,hn,he,hr⟩:=@lk_all (OV F (D+5)) 2 F a89L0 f K
 rw [loop_succ,hk,a89L0,runC_cut,hs]
 clear hs
 simp only [Pref14_signL0]
 clear hk
 by_cases h1:v0<v1
 rcases ixo (@pk_Pl_cells v3 v0) with h2|⟨x1,h2⟩
 rotate_left
 rcases h3:(Pref14_commute F x1.N x1.X x1.Z x1.Ph v4 v5 v6 v7) with _|r2
 rotate_left
 rcases h4:(r2) with _|_
 rcases ixo (@pk_Pl_cells v2 v0) with h5|⟨x3,h5⟩
 rotate_left
 rcases h6:(Pref14_times F v8 v9 v10 v11 x3.N x3.X x3.Z x3.Ph) with _|⟨r4,r5,r6,r7⟩
 all_goals simp -implicitDefEqProofs only [*,-ih,vref14_commute,vref14_times,EVA.down,ne_eq,seval]
 all_goals exact ih _ _ _ _ _ _ (by simp only [*,-ih,vref14_commute,vref14_times,EVA.down,ne_eq,seval])
theorem eref14_sign (D:Nat)(hD:5≤D)(F:Nat)(a0_N:Int)(a0_Stab a0_Destab:List Pl)(a1_N:Int)(a1_X a1_Z:BitVec 64)(a1_Phase:Int)(q:Bool):evW 2 (OV F D) F a89 (some [.agg [.i .i64 a0_N,.vs a0_Stab.length .unk (enc Pl.cells a0_Stab),.vs a0_Destab.length .unk (enc Pl.cells a0_Destab)],.agg [.i .i64 a1_N,.i .u64 (U a1_X),.i .u64 (U a1_Z),.i .i64 a1_Phase]]) q G0 =
 match Pref14_sign F a0_N a0_Stab a0_Destab a1_N a1_X a1_Z a1_Phase with|none=>none|some r0=>some (.i .i64 r0,none):=by
 obtain ⟨D,rfl⟩:=dex hD
 rw [evW_some,G0]
 simp only [Pref14_sign]
 simp -implicitDefEqProofs only [*,a89,runC_loop,EVA.down,ne_eq,seval]
 rw [lref14_signL0 (D+5) (by omega) F a0_N a0_Stab a0_Destab a1_N a1_X a1_Z a1_Phase _ F 0 a0_N 0#64 0#64 0 _ (by simp only [*,a89,EVA.down,ne_eq,seval];try rfl)]
 rcases h1:(Pref14_signL0 F a0_N a0_Stab a0_Destab a1_N a1_X a1_Z a1_Phase F 0 a0_N 0#64 0#64 0) with _|⟨y1,y2,y3,y4⟩
 rotate_left
 by_cases h2:y4=a1_Phase
 replace h2:=eq_true h2
 all_goals simp -implicitDefEqProofs only [*,a89,EVA.down,ne_eq,seval]
theorem vref14_sign {D F n:Nat}{args:List AV}{h:AHeap}:OV F (D+1) 89 args h n (n+1)=evW 2 (OV F D) F a89 (frzs (frz true 0 (bif AV.nors args then [] else h) 8) args) (AV.nors args) (hglb h 2):=evV_frozen rfl
theorem eref14_Odds (D:Nat)(hD:6≤D)(F:Nat)(a0_N:Int)(a0_Stab a0_Destab:List Pl)(a1:Int)(q:Bool):evW 2 (OV F D) F a71 (some [.agg [.i .i64 a0_N,.vs a0_Stab.length .unk (enc Pl.cells a0_Stab),.vs a0_Destab.length .unk (enc Pl.cells a0_Destab)],.i .i64 a1]) q G0 =
 match Pref14_Odds F a0_N a0_Stab a0_Destab a1 with|none=>none|some (r0,r1)=>some (.tup [.i .i64 r0,.i .i64 r1],none):=by
 obtain ⟨D,rfl⟩:=dex hD
 have cref14_Right0:=eref14_Right (D+5) (by omega) F
 have cref14_letter0:=eref14_letter (D+5) (by omega) F
 have cref14_loose0:=eref14_loose (D+5) (by omega) F
 have cref14_sign0:=eref14_sign (D+5) (by omega) F
 rw [evW_some,G0]
 simp only [Pref14_Odds]
 rcases h1:(Pref14_Right F a0_N a0_Stab a0_Destab) with _|r1
 rotate_left
 rcases h2:(r1) with _|_
 rotate_left
 by_cases h3:a1<0
 rotate_left
 by_cases h4:a1≥a0_N
 rotate_left
 rcases h5:(Pref14_letter a0_N a1 false) with ⟨r2,r3,r4,r5⟩
 rcases h6:(Pref14_loose F a0_N a0_Stab a0_Destab r2 r3 r4 r5) with _|r6
 rotate_left
 by_cases h7:r6≥0
 rotate_left
 rcases h8:(Pref14_sign F a0_N a0_Stab a0_Destab r2 r3 r4 r5) with _|r7
 rotate_left
 by_cases h9:r7<0
 all_goals simp -implicitDefEqProofs only [*,a71,vref14_Right,vref14_letter,vref14_loose,vref14_sign,EVA.down,ne_eq,seval]
theorem vref14_Odds {D F n:Nat}{args:List AV}{h:AHeap}:OV F (D+1) 71 args h n (n+1)=evW 2 (OV F D) F a71 (frzs (frz true 0 (bif AV.nors args then [] else h) 8) args) (AV.nors args) (hglb h 2):=evV_frozen rfl
theorem lref14_ProjectL0 (D:Nat)(hD:5≤D)(F:Nat)(v0 v1 v3:Int)(v4 v5:List Pl)(v6 v7:Int)(v8 v9:List Pl)(v10:Int)(v11 v12:BitVec 64)(v13:Int)(K:AE→AS→Option Res):∀ (f:Nat) (v2:Int) (s:AS),s.keepG 2 [2,3,6,10,11,12,13] [3,6,10,11]=some ⟨[(2,.i .i64 v0),(3,.lp 3 0),(6,.lp 6 0),(10,.lp 10 0),(11,.lp 11 0),(12,.i .i64 v1),(13,.i .i64 v2)],[(3,[.i .i64 v3,.vs v4.length .unk (enc Pl.cells v4),.vs v5.length .unk (enc Pl.cells v5)]),(6,[.i .i64 v6,.sl none 0 (.ex 0),.sl none 0 (.ex 0)]),(10,[.i .i64 v7,.vs v8.length .unk (enc Pl.cells v8),.vs v9.length .unk (enc Pl.cells v9)]),(11,[.i .i64 v10,.i .u64 (U v11),.i .u64 (U v12),.i .i64 v13])],[(0,tab64)],2⟩→
 evLoop (evC (OV F D) 2 F a67L0) f s K=match Pref14_ProjectL0 F v0 v1 v3 v4 v5 v6 v7 v8 v9 v10 v11 v12 v13 f v2 with|none=>none|some (_)=>K (.ex 0) ⟨[(2,.i .i64 v0),(3,.lp 3 0),(6,.lp 6 0),(10,.lp 10 0),(11,.lp 11 0),(12,.i .i64 v1)],[(3,[.i .i64 v3,.vs v4.length .unk (enc Pl.cells v4),.vs v5.length .unk (enc Pl.cells v5)]),(6,[.i .i64 v6,.sl none 0 (.ex 0),.sl none 0 (.ex 0)]),(10,[.i .i64 v7,.vs v8.length .unk (enc Pl.cells v8),.vs v9.length .unk (enc Pl.cells v9)]),(11,[.i .i64 v10,.i .u64 (U v11),.i .u64 (U v12),.i .i64 v13])],[(0,tab64)],2⟩:=by
 obtain ⟨D,rfl⟩:=dex hD
 have cref14_commute0:=eref14_commute (D+4) (by omega) F
 have cref14_times0:=eref14_times (D+4) (by omega) F
 intro f
 induction f with
 |zero=>intro v2 s hs;simp only [evLoop,Pref14_ProjectL0]
 |succ f ih=>
 intro v2 s hs
 obtain ⟨k0,hk,hn,he,hr⟩:=@lk_all (OV F (D+5)) 2 F a67L0 f K
 rw [loop_succ,hk,a67L0,runC_cutg,hs]
 clear hs
 simp only [Pref14_ProjectL0]
 clear hk
 by_cases h1:v2<v3
 by_cases h2:v2=v1
 replace h2:=eq_true h2
 rotate_left
 rcases ixo (@pk_Pl_cells v4 v2) with h3|⟨x1,h3⟩
 rotate_left
 rcases h4:(Pref14_commute F x1.N x1.X x1.Z x1.Ph v10 v11 v12 v13) with _|r2
 rotate_left
 rcases h5:(r2) with _|_
 rcases ixo (@pk_Pl_cells v4 v1) with h6|⟨x11,h6⟩
 rotate_left
 rcases h7:(Pref14_times F x1.N x1.X x1.Z x1.Ph x11.N x11.X x11.Z x11.Ph) with _|⟨r12,r13,r14,r15⟩
 rotate_left
 rcases ixo (@pk_Pl_cells v8 v2) with h8|⟨x16,h8⟩
 rotate_left
 rotate_left
 rcases ixo (@pk_Pl_cells v5 v2) with h9|⟨x3,h9⟩
 rotate_left
 rcases h10:(Pref14_commute F x3.N x3.X x3.Z x3.Ph v10 v11 v12 v13) with _|r4
 rotate_left
 rcases h11:(r4) with _|_
 rcases ixo (@pk_Pl_cells v4 v1) with h12|⟨x5,h12⟩
 rotate_left
 rcases h13:(Pref14_times F x3.N x3.X x3.Z x3.Ph x5.N x5.X x5.Z x5.Ph) with _|⟨r6,r7,r8,r9⟩
 rotate_left
 rcases ixo (@pk_Pl_cells v9 v2) with h14|⟨x10,h14⟩
 all_goals simp -implicitDefEqProofs only [*,-ih,vref14_commute,vref14_times,EVA.down,ne_eq,seval]
 all_goals exact ih _ _ (by simp only [*,-ih,vref14_commute,vref14_times,EVA.down,ne_eq,seval])
theorem lref14_ProjectL1 (D:Nat)(hD:5≤D)(F:Nat)(v0 v1 v3:Int)(v4 v5:List Pl)(v6 v7:Int)(v8:List Pl)(v9:Int)(v10 v11:BitVec 64)(v12:Int)(K:AE→AS→Option Res):∀ (f:Nat) (v2:Int) (v13:List Pl) (s:AS),s.keepG 2 [2,3,6,10,11,12,13] [3,6,10,11]=some ⟨[(2,.i .i64 v0),(3,.lp 3 0),(6,.lp 6 0),(10,.lp 10 0),(11,.lp 11 0),(12,.i .i64 v1),(13,.i .i64 v2)],[(3,[.i .i64 v3,.vs v4.length .unk (enc Pl.cells v4),.vs v5.length .unk (enc Pl.cells v5)]),(6,[.i .i64 v6,.sl none 0 (.ex 0),.sl none 0 (.ex 0)]),(10,[.i .i64 v7,.vs v8.length .unk (enc Pl.cells v8),.sl (some (2,0)) v13.length .op]),(11,[.i .i64 v9,.i .u64 (U v10),.i .u64 (U v11),.i .i64 v12])],[(2,⟨true,true,39,4,enc Pl.cells v13⟩),(0,tab64)],3⟩→
 evLoop (evC (OV F D) 2 F a67L0) f s K=match Pref14_ProjectL1 F v0 v1 v3 v4 v5 v6 v7 v8 v9 v10 v11 v12 f v2 v13 with|none=>none|some (y0)=>K (.ex 0) ⟨[(2,.i .i64 v0),(3,.lp 3 0),(6,.lp 6 0),(10,.lp 10 0),(11,.lp 11 0),(12,.i .i64 v1)],[(3,[.i .i64 v3,.vs v4.length .unk (enc Pl.cells v4),.vs v5.length .unk (enc Pl.cells v5)]),(6,[.i .i64 v6,.sl none 0 (.ex 0),.sl none 0 (.ex 0)]),(10,[.i .i64 v7,.vs v8.length .unk (enc Pl.cells v8),.sl (some (2,0)) y0.length .op]),(11,[.i .i64 v9,.i .u64 (U v10),.i .u64 (U v11),.i .i64 v12])],[(2,⟨true,true,39,4,enc Pl.cells y0⟩),(0,tab64)],3⟩:=by
 obtain ⟨D,rfl⟩:=dex hD
 have cref14_commute0:=eref14_commute (D+4) (by omega) F
 have cref14_times0:=eref14_times (D+4) (by omega) F
 intro f
 induction f with
 |zero=>intro v2 v13 s hs;simp only [evLoop,Pref14_ProjectL1]
 |succ f ih=>
 intro v2 v13 s hs
 obtain ⟨k0,hk,hn,he,hr⟩:=@lk_all (OV F (D+5)) 2 F a67L0 f K
 rw [loop_succ,hk,a67L0,runC_cutg,hs]
 clear hs
 simp only [Pref14_ProjectL1]
 clear hk
 by_cases h1:v2<v3
 by_cases h2:v2=v1
 replace h2:=eq_true h2
 rotate_left
 rcases ixo (@pk_Pl_cells v4 v2) with h3|⟨x1,h3⟩
 rotate_left
 rcases h4:(Pref14_commute F x1.N x1.X x1.Z x1.Ph v9 v10 v11 v12) with _|r2
 rotate_left
 rcases h5:(r2) with _|_
 rcases ixo (@pk_Pl_cells v4 v1) with h6|⟨x11,h6⟩
 rotate_left
 rcases h7:(Pref14_times F x1.N x1.X x1.Z x1.Ph x11.N x11.X x11.Z x11.Ph) with _|⟨r12,r13,r14,r15⟩
 rotate_left
 rcases ixo (@pk_Pl_cells v8 v2) with h8|⟨x16,h8⟩
 rotate_left
 rotate_left
 rcases ixo (@pk_Pl_cells v5 v2) with h9|⟨x3,h9⟩
 rotate_left
 rcases h10:(Pref14_commute F x3.N x3.X x3.Z x3.Ph v9 v10 v11 v12) with _|r4
 rotate_left
 rcases h11:(r4) with _|_
 rcases ixo (@pk_Pl_cells v4 v1) with h12|⟨x5,h12⟩
 rotate_left
 rcases h13:(Pref14_times F x3.N x3.X x3.Z x3.Ph x5.N x5.X x5.Z x5.Ph) with _|⟨r6,r7,r8,r9⟩
 rotate_left
 rcases ixo (@pk_Pl_cells v13 v2) with h14|⟨x10,h14⟩
 rotate_left
 have h15:v2.toNat*4+4≤v13.length*4:=by have:=(idx_some h14.1).2.1;omega
 have h16:splice (enc Pl.cells v13) (v2.toNat*4) [.i .i64 r6,.i .u64 (U r7),.i .u64 (U r8),.i .i64 r9]=enc Pl.cells ((v13).set v2.toNat (⟨r6,r7,r8,r9⟩:Pl)):=own_put len_Pl_cells h14.1 (⟨r6,r7,r8,r9⟩:Pl)
 all_goals simp -implicitDefEqProofs only [*,-ih,vref14_commute,vref14_times,EVA.down,ne_eq,seval]
 all_goals exact ih _ _ _ (by simp only [*,-ih,vref14_commute,vref14_times,EVA.down,ne_eq,seval])
theorem lref14_ProjectL2 (D:Nat)(hD:5≤D)(F:Nat)(v0 v1 v3:Int)(v4 v5:List Pl)(v6 v7:Int)(v8:List Pl)(v9:Int)(v10 v11:BitVec 64)(v12:Int)(K:AE→AS→Option Res):∀ (f:Nat) (v2:Int) (v13:List Pl) (s:AS),s.keepG 2 [2,3,6,10,11,12,13] [3,6,10,11]=some ⟨[(2,.i .i64 v0),(3,.lp 3 0),(6,.lp 6 0),(10,.lp 10 0),(11,.lp 11 0),(12,.i .i64 v1),(13,.i .i64 v2)],[(3,[.i .i64 v3,.vs v4.length .unk (enc Pl.cells v4),.vs v5.length .unk (enc Pl.cells v5)]),(6,[.i .i64 v6,.sl none 0 (.ex 0),.sl none 0 (.ex 0)]),(10,[.i .i64 v7,.sl (some (2,0)) v13.length .op,.vs v8.length .unk (enc Pl.cells v8)]),(11,[.i .i64 v9,.i .u64 (U v10),.i .u64 (U v11),.i .i64 v12])],[(2,⟨true,true,39,4,enc Pl.cells v13⟩),(0,tab64)],3⟩→
 evLoop (evC (OV F D) 2 F a67L0) f s K=match Pref14_ProjectL2 F v0 v1 v3 v4 v5 v6 v7 v8 v9 v10 v11 v12 f v2 v13 with|none=>none|some (y0)=>K (.ex 0) ⟨[(2,.i .i64 v0),(3,.lp 3 0),(6,.lp 6 0),(10,.lp 10 0),(11,.lp 11 0),(12,.i .i64 v1)],[(3,[.i .i64 v3,.vs v4.length .unk (enc Pl.cells v4),.vs v5.length .unk (enc Pl.cells v5)]),(6,[.i .i64 v6,.sl none 0 (.ex 0),.sl none 0 (.ex 0)]),(10,[.i .i64 v7,.sl (some (2,0)) y0.length .op,.vs v8.length .unk (enc Pl.cells v8)]),(11,[.i .i64 v9,.i .u64 (U v10),.i .u64 (U v11),.i .i64 v12])],[(2,⟨true,true,39,4,enc Pl.cells y0⟩),(0,tab64)],3⟩:=by
 obtain ⟨D,rfl⟩:=dex hD
 have cref14_commute0:=eref14_commute (D+4) (by omega) F
 have cref14_times0:=eref14_times (D+4) (by omega) F
 intro f
 induction f with
 |zero=>intro v2 v13 s hs;simp only [evLoop,Pref14_ProjectL2]
 |succ f ih=>
 intro v2 v13 s hs
 obtain ⟨k0,hk,hn,he,hr⟩:=@lk_all (OV F (D+5)) 2 F a67L0 f K
 rw [loop_succ,hk,a67L0,runC_cutg,hs]
 clear hs
 simp only [Pref14_ProjectL2]
 clear hk
 by_cases h1:v2<v3
 by_cases h2:v2=v1
 replace h2:=eq_true h2
 rotate_left
 rcases ixo (@pk_Pl_cells v4 v2) with h3|⟨x1,h3⟩
 rotate_left
 rcases h4:(Pref14_commute F x1.N x1.X x1.Z x1.Ph v9 v10 v11 v12) with _|r2
 rotate_left
 rcases h5:(r2) with _|_
 rcases ixo (@pk_Pl_cells v4 v1) with h6|⟨x11,h6⟩
 rotate_left
 rcases h7:(Pref14_times F x1.N x1.X x1.Z x1.Ph x11.N x11.X x11.Z x11.Ph) with _|⟨r12,r13,r14,r15⟩
 rotate_left
 rcases ixo (@pk_Pl_cells v13 v2) with h8|⟨x16,h8⟩
 rotate_left
 have h9:v2.toNat*4+4≤v13.length*4:=by have:=(idx_some h8.1).2.1;omega
 have h10:splice (enc Pl.cells v13) (v2.toNat*4) [.i .i64 r12,.i .u64 (U r13),.i .u64 (U r14),.i .i64 r15]=enc Pl.cells ((v13).set v2.toNat (⟨r12,r13,r14,r15⟩:Pl)):=own_put len_Pl_cells h8.1 (⟨r12,r13,r14,r15⟩:Pl)
 rcases ixo (@pk_Pl_cells v5 v2) with h11|⟨x17,h11⟩
 rotate_left
 rcases h12:(Pref14_commute F x17.N x17.X x17.Z x17.Ph v9 v10 v11 v12) with _|r18
 rotate_left
 rcases h13:(r18) with _|_
 rcases h14:(Pref14_times F x17.N x17.X x17.Z x17.Ph x11.N x11.X x11.Z x11.Ph) with _|⟨r19,r20,r21,r22⟩
 rotate_left
 rcases ixo (@pk_Pl_cells v8 v2) with h15|⟨x23,h15⟩
 rotate_left
 rotate_left
 rotate_left
 rcases ixo (@pk_Pl_cells v5 v2) with h16|⟨x3,h16⟩
 rotate_left
 rcases h17:(Pref14_commute F x3.N x3.X x3.Z x3.Ph v9 v10 v11 v12) with _|r4
 rotate_left
 rcases h18:(r4) with _|_
 rcases ixo (@pk_Pl_cells v4 v1) with h19|⟨x5,h19⟩
 rotate_left
 rcases h20:(Pref14_times F x3.N x3.X x3.Z x3.Ph x5.N x5.X x5.Z x5.Ph) with _|⟨r6,r7,r8,r9⟩
 rotate_left
 rcases ixo (@pk_Pl_cells v8 v2) with h21|⟨x10,h21⟩
 all_goals simp -implicitDefEqProofs only [*,-ih,vref14_commute,vref14_times,EVA.down,ne_eq,seval]
 all_goals exact ih _ _ _ (by simp only [*,-ih,vref14_commute,vref14_times,EVA.down,ne_eq,seval])
end Go.Proofs.YtogkkamlmklpkaaDoor.Ab
