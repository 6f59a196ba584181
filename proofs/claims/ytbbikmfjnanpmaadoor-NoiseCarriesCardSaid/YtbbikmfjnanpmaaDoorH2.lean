/- Functions of the program as plain functions, and that the abstract machine's evaluation comes to them. Written by G.py. No condition. -/
import Derived.Test.YtbbikmfjnanpmaaDoorH1
set_option maxRecDepth 100000
set_option maxHeartbeats 4000000
set_option linter.unusedVariables false
set_option linter.unusedSimpArgs false
namespace Go.Proofs.YtbbikmfjnanpmaaDoor.Ab
open Go
theorem eref13_Through (D:Nat)(hD:4≤D)(F:Nat)(a0_N:Int)(a0_X a0_Z:BitVec 64)(a0_Phase a1:Int)(a2:List Int)(q:Bool):evW 3 (OV F D) F a66 (some [.agg [.i .i64 a0_N,.i .u64 (U a0_X),.i .u64 (U a0_Z),.i .i64 a0_Phase],.i .i64 a1,.vs a2.length .unk (enc c3 a2)]) q G0 =
 match Pref13_Through F a0_N a0_X a0_Z a0_Phase a1 a2 with|none=>none|some (r0,r1,r2,r3,r4)=>some (.tup [.agg [.i .i64 r0,.i .u64 (U r1),.i .u64 (U r2),.i .i64 r3],.i .i64 r4],none):=by
 obtain ⟨D,rfl⟩:=dex hD
 have cref13_Right0:=eref13_Right (D+3) (by omega) F
 have cref13_images0:=eref13_images (D+3) (by omega) F
 have cref06_Check0:=eref06_Check (D+3) (by omega) F
 rw [evW_some,G0]
 simp only [Pref13_Through]
 rcases h1:(Pref13_Right F a0_N a0_X a0_Z a0_Phase) with _|r1
 rotate_left
 rcases h2:(r1) with _|_
 rotate_left
 by_cases h3:((((Pref13_images a1)).length:Int))=0
 replace h3:=eq_true h3
 rotate_left
 rcases h4:(Pref06_Check F a1 a2 a0_N) with _|r2
 rotate_left
 by_cases h5:r2=0
 replace h5:=eq_true h5
 simp -implicitDefEqProofs only [*,a66,vref13_Right,vref13_images,vref06_Check,runC_loop,EVA.down,ne_eq,seval]
 rw [lref13_ThroughL0 (D+4) (by omega) F a2 (Pref13_images a1) a0_N a0_X a0_Z a0_Phase 0 0#64 0#64 0 a0_N a0_Phase _ F 0 a0_X a0_Z _ (by simp only [*,a66,vref13_Right,vref13_images,vref06_Check,EVA.down,ne_eq,seval];try rfl)]
 rcases h6:(Pref13_ThroughL0 a2 (Pref13_images a1) a0_N a0_X a0_Z a0_Phase 0 0#64 0#64 0 a0_N a0_Phase F 0 a0_X a0_Z) with _|⟨y3,y4⟩
 rotate_left
 simp -implicitDefEqProofs only [*,a66,vref13_Right,vref13_images,vref06_Check,runC_loop,EVA.down,ne_eq,seval]
 rw [lref13_ThroughL1 (D+4) (by omega) F a2 (Pref13_images a1) a0_N a0_X a0_Z a0_Phase 0 0#64 0#64 0 _ F 0 a0_N y3 y4 a0_Phase _ (by simp only [*,a66,vref13_Right,vref13_images,vref06_Check,EVA.down,ne_eq,seval];try rfl)]
 rcases h7:(Pref13_ThroughL1 F a2 (Pref13_images a1) a0_N a0_X a0_Z a0_Phase 0 0#64 0#64 0 F 0 a0_N y3 y4 a0_Phase) with _|⟨y5,y6,y7,y8⟩
 all_goals simp -implicitDefEqProofs only [*,a66,vref13_Right,vref13_images,vref06_Check,EVA.down,ne_eq,seval]
theorem vref13_Through {D F n:Nat}{args:List AV}{h:AHeap}:OV F (D+1) 66 args h n (n+1)=evW 3 (OV F D) F a66 (frzs (frz true 0 (bif AV.nors args then [] else h) 8) args) (AV.nors args) (hglb h 3):=evV_frozen rfl
theorem eref24_gateLetter (D:Nat)(hD:0≤D)(F:Nat)(a0 a1_Kind a1_Gate:Int)(a1_Qubits:List Int)(a1_Bit a1_If a1_When:Int)(q:Bool):evW 3 (OV F D) F a67 (some [.i .i64 a0,.agg [.i .i64 a1_Kind,.i .i64 a1_Gate,.vs a1_Qubits.length .unk (enc c3 a1_Qubits),.i .i64 a1_Bit,.i .i64 a1_If,.i .i64 a1_When]]) q G0 =
 match Pref24_gateLetter a0 a1_Kind a1_Gate a1_Qubits a1_Bit a1_If a1_When with|none=>none|some (r0,r1,r2,r3)=>some (.agg [.i .i64 r0,.i .u64 (U r1),.i .u64 (U r2),.i .i64 r3],none):=by
 rw [evW_some,G0]
 simp only [Pref24_gateLetter]
 rcases ixo (@pk_c3 a1_Qubits (0)) with h1|⟨x1,h1⟩
 rotate_left
 try simp only [Int.reduceToNat,Nat.reduceMul,Nat.reduceAdd,Nat.zero_mul,Nat.zero_add,List.drop_zero] at h1
 by_cases h2:a1_Gate=2
 replace h2:=eq_true h2
 by_cases h3:a1_Gate=4
 replace h3:=eq_true h3
 rotate_left
 by_cases h4:a1_Gate=3
 replace h4:=eq_true h4
 rotate_left
 rotate_left
 by_cases h5:a1_Gate=3
 replace h5:=eq_true h5
 by_cases h6:a1_Gate=4
 replace h6:=eq_true h6
 rotate_left
 rotate_left
 by_cases h7:a1_Gate=4
 replace h7:=eq_true h7
 all_goals simp -implicitDefEqProofs only [*,a67,EVA.down,ne_eq,seval]
theorem vref24_gateLetter {D F n:Nat}{args:List AV}{h:AHeap}:OV F (D+1) 67 args h n (n+1)=evW 3 (OV F D) F a67 (frzs (frz true 0 (bif AV.nors args then [] else h) 8) args) (AV.nors args) (hglb h 3):=evV_frozen rfl
theorem lref24_CarryL1 (D:Nat)(hD:1≤D)(F:Nat)(v0:List S53)(v2 v3 v4:Int)(v5:List S40)(v6:Int)(v7 v8:BitVec 64)(v9:Int)(v14 v15:List Bool)(K:AE→AS→Option Res):∀ (f:Nat) (v1 v10:Int) (v11 v12:BitVec 64) (v13:Int) (s:AS),s.keepG 3 [1,2,4,7,8,9] [2,4]=some ⟨[(1,.vs v0.length .unk (enc S53.cs v0)),(2,.lp 2 0),(4,.lp 4 0),(7,.p (some (3,0))),(8,.i .i64 v1),(9,.i .i64 v2)],[(2,[.i .i64 v3,.i .i64 v4,.vs v5.length .unk (enc S40.cs v5)]),(4,[.i .i64 v6,.i .u64 (U v7),.i .u64 (U v8),.i .i64 v9,.sl none 0 (.ex 0),.sl none 0 (.ex 0)])],[(3,⟨true,false,62,6,[.i .i64 v10,.i .u64 (U v11),.i .u64 (U v12),.i .i64 v13,.sl (some (4,0)) v14.length (.ex (v14.length)),.sl (some (5,0)) v15.length .op]⟩),(4,⟨true,false,4,1,enc c4 v14⟩),(5,⟨true,true,4,1,enc c4 v15⟩),(1,tab64)],6⟩→
 evLoop (evC (OV F D) 3 F a22L0) f s K=match Pref24_CarryL1 v0 v2 v3 v4 v5 v6 v7 v8 v9 v14 v15 f v1 v10 v11 v12 v13 with|none=>none|some (y0,y1,y2,y3,y4)=>K (.ex 2) ⟨[(1,.vs v0.length .unk (enc S53.cs v0)),(2,.lp 2 0),(4,.lp 4 0),(7,.p (some (3,0))),(8,.i .i64 y0),(9,.i .i64 v2)],[(2,[.i .i64 v3,.i .i64 v4,.vs v5.length .unk (enc S40.cs v5)]),(4,[.i .i64 v6,.i .u64 (U v7),.i .u64 (U v8),.i .i64 v9,.sl none 0 (.ex 0),.sl none 0 (.ex 0)])],[(3,⟨true,false,62,6,[.i .i64 y1,.i .u64 (U y2),.i .u64 (U y3),.i .i64 y4,.sl (some (4,0)) v14.length (.ex (v14.length)),.sl (some (5,0)) v15.length .op]⟩),(4,⟨true,false,4,1,enc c4 v14⟩),(5,⟨true,true,4,1,enc c4 v15⟩),(1,tab64)],6⟩:=by
 obtain ⟨D,rfl⟩:=dex hD
 have cref24_times0:=eref24_times (D) (by omega) F
 intro f
 induction f with
 |zero=>intro v1 v10 v11 v12 v13 s hs;simp only [evLoop,Pref24_CarryL1]
 |succ f ih=>
 intro v1 v10 v11 v12 v13 s hs
 obtain ⟨k0,hk,hn,he,hr⟩:=@lk_all (OV F (D+1)) 3 F a22L0 f K
 rw [loop_succ,hk,a22L0,runC_cutg,hs]
 clear hs
 simp only [Pref24_CarryL1]
 clear hk
 by_cases h1:v1<(v0.length:Int)
 rcases ixo (@pk_S53_cs v0 v1) with h2|⟨x1,h2⟩
 rotate_left
 by_cases h3:x1.f_After=v2
 replace h3:=eq_true h3
 rcases h4:(Pref24_times v10 v11 v12 v13 x1.f_P_N x1.f_P_X x1.f_P_Z x1.f_P_Phase) with ⟨r2,r3,r4,r5⟩
 all_goals simp -implicitDefEqProofs only [*,-ih,vref24_times,EVA.down,ne_eq,seval]
 all_goals exact ih _ _ _ _ _ _ (by simp only [*,-ih,vref24_times,EVA.down,ne_eq,seval])
theorem xref24_carry {D F n fl:Nat}{args:List AV}{h:AHeap}(h1:fl≠n)(h2:fl≠n+1):OV F (D+1) 46 args h n fl=match evFn (OV F D) (flOf fl n) F a46 args h n with|some (v,h',n')=>some (v,some (h',n'))|none=>none:=evV_write rfl rfl h1 h2
theorem lref24_CarryL2 (D:Nat)(hD:6≤D)(F:Nat)(K:AE→AS→Option Res):∀ (f:Nat) (v0:List S53) (v1 v2 v3 v4:Int) (v5:List S40) (v6:Int) (v7 v8:BitVec 64) (v9 v10:Int) (v11 v12:BitVec 64) (v13:Int) (v14 v15:List Bool) (s:AS),s.keepG 3 [1,2,4,7,8,9] [2,4]=some ⟨[(1,.vs v0.length .unk (enc S53.cs v0)),(2,.lp 2 0),(4,.lp 4 0),(7,.p (some (3,0))),(8,.i .i64 v1),(9,.i .i64 v2)],[(2,[.i .i64 v3,.i .i64 v4,.vs v5.length .unk (enc S40.cs v5)]),(4,[.i .i64 v6,.i .u64 (U v7),.i .u64 (U v8),.i .i64 v9,.sl none 0 (.ex 0),.sl none 0 (.ex 0)])],[(3,⟨true,false,62,6,[.i .i64 v10,.i .u64 (U v11),.i .u64 (U v12),.i .i64 v13,.sl (some (4,0)) v14.length (.ex (v14.length)),.sl (some (5,0)) v15.length .op]⟩),(4,⟨true,false,4,1,enc c4 v14⟩),(5,⟨true,true,4,1,enc c4 v15⟩),(1,tab64)],6⟩→
 evLoop (evC (OV F D) 3 F a22L1) f s K=match Pref24_CarryL2 F f v0 v1 v2 v3 v4 v5 v6 v7 v8 v9 v10 v11 v12 v13 v14 v15 with|none=>none|some (.inl (y0,y1,y2,y3,y4,y5,y6,y7,y8))=>K (.ex 0) ⟨[(4,.lp 4 0),(7,.p (some (3,0)))],[(4,[.i .i64 y0,.i .u64 (U y1),.i .u64 (U y2),.i .i64 y3,.sl none 0 (.ex 0),.sl none 0 (.ex 0)])],[(3,⟨true,false,62,6,[.i .i64 y4,.i .u64 (U y5),.i .u64 (U y6),.i .i64 y7,.sl (some (4,0)) y8.length (.ex (y8.length)),.sl none 0 (.ex 0)]⟩),(4,⟨true,false,4,1,enc c4 y8⟩),(1,tab64)],5⟩|some (.inr (y0,y1,y2,y3,y4,y5,y6,y7,y8,y9))=>K (.ex 0) ⟨[(4,.lp 4 0),(7,.p (some (3,0)))],[(4,[.i .i64 y0,.i .u64 (U y1),.i .u64 (U y2),.i .i64 y3,.sl none 0 (.ex 0),.sl none 0 (.ex 0)])],[(3,⟨true,false,62,6,[.i .i64 y4,.i .u64 (U y5),.i .u64 (U y6),.i .i64 y7,.sl (some (4,0)) y8.length (.ex (y8.length)),.sl (some (5,0)) y9.length .op]⟩),(4,⟨true,false,4,1,enc c4 y8⟩),(5,⟨true,true,4,1,enc c4 y9⟩),(1,tab64)],6⟩:=by
 obtain ⟨D,rfl⟩:=dex hD
 have cref24_times1:=eref24_times (D+4) (by omega) F
 have cref13_Through1:=eref13_Through (D+4) (by omega) F
 have cref24_gateLetter1:=eref24_gateLetter (D+4) (by omega) F
 intro f
 induction f with
 |zero=>intro v0 v1 v2 v3 v4 v5 v6 v7 v8 v9 v10 v11 v12 v13 v14 v15 s hs;simp only [evLoop,Pref24_CarryL2]
 |succ f ih=>
 intro v0 v1 v2 v3 v4 v5 v6 v7 v8 v9 v10 v11 v12 v13 v14 v15 s hs
 obtain ⟨k0,hk,hn,he,hr⟩:=@lk_all (OV F (D+6)) 3 F a22L1 f K
 rw [loop_succ,hk,a22L1,runC_cutg,hs]
 clear hs
 simp only [Pref24_CarryL2]
 clear hk
 by_cases h1:v2≤(v5.length:Int)
 simp -implicitDefEqProofs only [*,-ih,vref24_times,vref13_Through,vref24_gateLetter,a46,xref24_carry,runC_loop,EVA.down,ne_eq,seval]
 rw [lref24_CarryL1 (D+6) (by omega) F v0 v2 v3 v4 v5 v6 v7 v8 v9 v14 v15 _ F v1 v10 v11 v12 v13 _ (by simp only [*,-ih,vref24_times,vref13_Through,vref24_gateLetter,a46,xref24_carry,EVA.down,ne_eq,seval];try rfl)]
 rcases h2:(Pref24_CarryL1 v0 v2 v3 v4 v5 v6 v7 v8 v9 v14 v15 F v1 v10 v11 v12 v13) with _|⟨y1,y2,y3,y4,y5⟩
 rotate_left
 by_cases h3:v2<(v5.length:Int)
 rcases ixo (@pk_S40_cs v5 v2) with h4|⟨x6,h4⟩
 rotate_left
 by_cases h5:x6.f_Kind=1
 replace h5:=eq_true h5
 by_cases h6:x6.f_If=(((-1):Int))
 replace h6:=eq_true h6
 rcases h7:(Pref13_Through F y2 y3 y4 y5 x6.f_Gate x6.f_Qubits) with _|⟨r7,r8,r9,r10,r11⟩
 rotate_left
 rotate_left
 rcases ixo (@pk_c4 v14 x6.f_If) with h8|⟨x12,h8⟩
 rotate_left
 rcases h9:(x12) with _|_
 rotate_left
 rcases h10:(Pref24_gateLetter y2 x6.f_Kind x6.f_Gate x6.f_Qubits x6.f_Bit x6.f_If x6.f_When) with _|⟨r13,r14,r15,r16⟩
 rotate_left
 rcases h11:(Pref24_times y2 y3 y4 y5 r13 r14 r15 r16) with ⟨r17,r18,r19,r20⟩
 rotate_left
 by_cases h12:x6.f_Kind=2
 replace h12:=eq_true h12
 rcases ixo (@pk_c3 x6.f_Qubits (0)) with h13|⟨x21,h13⟩
 rotate_left
 try simp only [Int.reduceToNat,Nat.reduceMul,Nat.reduceAdd,Nat.zero_mul,Nat.zero_add,List.drop_zero] at h13
 by_cases h14:v15.length≤140737488355327
 rcases ixo (@pk_c4 v14 x6.f_Bit) with h15|⟨x22,h15⟩
 rotate_left
 have h16:x6.f_Bit.toNat+1≤v14.length:=by have:=(idx_some h15.1).2.1;omega
 have h17:splice (enc c4 v14) (x6.f_Bit.toNat) [.b (decide ((y3 &&& (1#64 <<< ((BitVec.ofInt 64 x21)).toNat))≠0#64))]=enc c4 ((v14).set x6.f_Bit.toNat (decide ((y3 &&& (1#64 <<< ((BitVec.ofInt 64 x21)).toNat))≠0#64))):=put_one len_c4 h15.1 (decide ((y3 &&& (1#64 <<< ((BitVec.ofInt 64 x21)).toNat))≠0#64))
 rotate_left
 rotate_left
 by_cases h18:x6.f_Kind=3
 replace h18:=eq_true h18
 rcases ixo (@pk_c3 x6.f_Qubits (0)) with h19|⟨x23,h19⟩
 rotate_left
 try simp only [Int.reduceToNat,Nat.reduceMul,Nat.reduceAdd,Nat.zero_mul,Nat.zero_add,List.drop_zero] at h19
 by_cases h20:v15.length≤140737488355327
 all_goals simp -implicitDefEqProofs only [*,-ih,vref24_times,vref13_Through,vref24_gateLetter,a46,xref24_carry,EVA.down,ne_eq,seval]
 all_goals exact ih _ _ _ _ _ _ _ _ _ _ _ _ _ _ _ _ _ (by simp only [*,-ih,vref24_times,vref13_Through,vref24_gateLetter,a46,xref24_carry,EVA.down,ne_eq,seval])
theorem lref24_CarryL3 (D:Nat)(hD:6≤D)(F:Nat)(K:AE→AS→Option Res):∀ (f:Nat) (v0:List S53) (v1 v2 v3 v4:Int) (v5:List S40) (v6:Int) (v7 v8:BitVec 64) (v9 v10:Int) (v11 v12:BitVec 64) (v13:Int) (v14:List Bool) (s:AS),s.keepG 3 [1,2,4,7,8,9] [2,4]=some ⟨[(1,.vs v0.length .unk (enc S53.cs v0)),(2,.lp 2 0),(4,.lp 4 0),(7,.p (some (3,0))),(8,.i .i64 v1),(9,.i .i64 v2)],[(2,[.i .i64 v3,.i .i64 v4,.vs v5.length .unk (enc S40.cs v5)]),(4,[.i .i64 v6,.i .u64 (U v7),.i .u64 (U v8),.i .i64 v9,.sl none 0 (.ex 0),.sl none 0 (.ex 0)])],[(3,⟨true,false,62,6,[.i .i64 v10,.i .u64 (U v11),.i .u64 (U v12),.i .i64 v13,.sl (some (4,0)) v14.length (.ex (v14.length)),.sl none 0 (.ex 0)]⟩),(4,⟨true,false,4,1,enc c4 v14⟩),(1,tab64)],5⟩→
 evLoop (evC (OV F D) 3 F a22L1) f s K=match Pref24_CarryL3 F f v0 v1 v2 v3 v4 v5 v6 v7 v8 v9 v10 v11 v12 v13 v14 with|none=>none|some (.inl (y0,y1,y2,y3,y4,y5,y6,y7,y8))=>K (.ex 0) ⟨[(4,.lp 4 0),(7,.p (some (3,0)))],[(4,[.i .i64 y0,.i .u64 (U y1),.i .u64 (U y2),.i .i64 y3,.sl none 0 (.ex 0),.sl none 0 (.ex 0)])],[(3,⟨true,false,62,6,[.i .i64 y4,.i .u64 (U y5),.i .u64 (U y6),.i .i64 y7,.sl (some (4,0)) y8.length (.ex (y8.length)),.sl none 0 (.ex 0)]⟩),(4,⟨true,false,4,1,enc c4 y8⟩),(1,tab64)],5⟩|some (.inr (y0,y1,y2,y3,y4,y5,y6,y7,y8,y9))=>K (.ex 0) ⟨[(4,.lp 4 0),(7,.p (some (3,0)))],[(4,[.i .i64 y0,.i .u64 (U y1),.i .u64 (U y2),.i .i64 y3,.sl none 0 (.ex 0),.sl none 0 (.ex 0)])],[(3,⟨true,false,62,6,[.i .i64 y4,.i .u64 (U y5),.i .u64 (U y6),.i .i64 y7,.sl (some (4,0)) y8.length (.ex (y8.length)),.sl (some (5,0)) y9.length .op]⟩),(4,⟨true,false,4,1,enc c4 y8⟩),(5,⟨true,true,4,1,enc c4 y9⟩),(1,tab64)],6⟩:=by
 obtain ⟨D,rfl⟩:=dex hD
 have cref24_times1:=eref24_times (D+4) (by omega) F
 have cref13_Through1:=eref13_Through (D+4) (by omega) F
 have cref24_gateLetter1:=eref24_gateLetter (D+4) (by omega) F
 have nlref24_CarryL2:=lref24_CarryL2 (D+6) (by omega) F K
 intro f
 induction f with
 |zero=>intro v0 v1 v2 v3 v4 v5 v6 v7 v8 v9 v10 v11 v12 v13 v14 s hs;simp only [evLoop,Pref24_CarryL3]
 |succ f ih=>
 intro v0 v1 v2 v3 v4 v5 v6 v7 v8 v9 v10 v11 v12 v13 v14 s hs
 obtain ⟨k0,hk,hn,he,hr⟩:=@lk_all (OV F (D+6)) 3 F a22L1 f K
 rw [loop_succ,hk,a22L1,runC_cutg,hs]
 clear hs
 simp only [Pref24_CarryL3]
 clear hk
 by_cases h1:v2≤(v5.length:Int)
 simp -implicitDefEqProofs only [*,-ih,vref24_times,vref13_Through,vref24_gateLetter,a46,xref24_carry,runC_loop,EVA.down,ne_eq,seval]
 rw [lref24_CarryL0 (D+6) (by omega) F v0 v2 v3 v4 v5 v6 v7 v8 v9 v14 _ F v1 v10 v11 v12 v13 _ (by simp only [*,-ih,vref24_times,vref13_Through,vref24_gateLetter,a46,xref24_carry,EVA.down,ne_eq,seval];try rfl)]
 rcases h2:(Pref24_CarryL0 v0 v2 v3 v4 v5 v6 v7 v8 v9 v14 F v1 v10 v11 v12 v13) with _|⟨y1,y2,y3,y4,y5⟩
 rotate_left
 by_cases h3:v2<(v5.length:Int)
 rcases ixo (@pk_S40_cs v5 v2) with h4|⟨x6,h4⟩
 rotate_left
 by_cases h5:x6.f_Kind=1
 replace h5:=eq_true h5
 by_cases h6:x6.f_If=(((-1):Int))
 replace h6:=eq_true h6
 rcases h7:(Pref13_Through F y2 y3 y4 y5 x6.f_Gate x6.f_Qubits) with _|⟨r7,r8,r9,r10,r11⟩
 rotate_left
 rotate_left
 rcases ixo (@pk_c4 v14 x6.f_If) with h8|⟨x12,h8⟩
 rotate_left
 rcases h9:(x12) with _|_
 rotate_left
 rcases h10:(Pref24_gateLetter y2 x6.f_Kind x6.f_Gate x6.f_Qubits x6.f_Bit x6.f_If x6.f_When) with _|⟨r13,r14,r15,r16⟩
 rotate_left
 rcases h11:(Pref24_times y2 y3 y4 y5 r13 r14 r15 r16) with ⟨r17,r18,r19,r20⟩
 rotate_left
 by_cases h12:x6.f_Kind=2
 replace h12:=eq_true h12
 rcases ixo (@pk_c3 x6.f_Qubits (0)) with h13|⟨x21,h13⟩
 rotate_left
 try simp only [Int.reduceToNat,Nat.reduceMul,Nat.reduceAdd,Nat.zero_mul,Nat.zero_add,List.drop_zero] at h13
 rcases ixo (@pk_c4 v14 x6.f_Bit) with h14|⟨x22,h14⟩
 rotate_left
 have h15:x6.f_Bit.toNat+1≤v14.length:=by have:=(idx_some h14.1).2.1;omega
 have h16:splice (enc c4 v14) (x6.f_Bit.toNat) [.b (decide ((y3 &&& (1#64 <<< ((BitVec.ofInt 64 x21)).toNat))≠0#64))]=enc c4 ((v14).set x6.f_Bit.toNat (decide ((y3 &&& (1#64 <<< ((BitVec.ofInt 64 x21)).toNat))≠0#64))):=put_one len_c4 h14.1 (decide ((y3 &&& (1#64 <<< ((BitVec.ofInt 64 x21)).toNat))≠0#64))
 rotate_left
 by_cases h17:x6.f_Kind=3
 replace h17:=eq_true h17
 rcases ixo (@pk_c3 x6.f_Qubits (0)) with h18|⟨x23,h18⟩
 rotate_left
 try simp only [Int.reduceToNat,Nat.reduceMul,Nat.reduceAdd,Nat.zero_mul,Nat.zero_add,List.drop_zero] at h18
 all_goals simp -implicitDefEqProofs only [*,-ih,vref24_times,vref13_Through,vref24_gateLetter,a46,xref24_carry,EVA.down,ne_eq,seval]
 all_goals first|exact ih _ _ _ _ _ _ _ _ _ _ _ _ _ _ _ _ (by simp only [*,-ih,vref24_times,vref13_Through,vref24_gateLetter,a46,xref24_carry,EVA.down,ne_eq,seval])|exact nlref24_CarryL2 f _ _ _ _ _ _ _ _ _ _ _ _ _ _ _ _ _ (by simp only [*,-ih,vref24_times,vref13_Through,vref24_gateLetter,a46,xref24_carry,EVA.down,ne_eq,seval])
theorem eref24_Carry (D:Nat)(hD:7≤D)(F:Nat)(a0_Qubits a0_Bits:Int)(a0_Ops:List S40)(a1:List S53)(q:Bool):evW 3 (OV F D) F a22 (some [.agg [.i .i64 a0_Qubits,.i .i64 a0_Bits,.vs a0_Ops.length .unk (enc S40.cs a0_Ops)],.vs a1.length .unk (enc S53.cs a1)]) q G0 =
 match Pref24_Carry F a0_Qubits a0_Bits a0_Ops a1 with|none=>none|some (r0,r1,r2,r3,r4,r5,r6)=>some (.tup [.agg [.i .i64 r0,.i .u64 (U r1),.i .u64 (U r2),.i .i64 r3,.vs r4.length .unk (enc c4 r4),.vs r5.length .unk (enc c4 r5)],.i .i64 r6],none):=by
 obtain ⟨D,rfl⟩:=dex hD
 have cref24_Check0:=eref24_Check (D+6) (by omega) F
 have cref24_carries0:=eref24_carries (D+6) (by omega) F
 rw [evW_some,G0]
 simp only [Pref24_Carry]
 rcases h1:(Pref24_Check F a0_Qubits a0_Bits a0_Ops a1) with _|r1
 rotate_left
 by_cases h2:r1=0
 replace h2:=eq_true h2
 rcases h3:(Pref24_carries F a0_Qubits a0_Bits a0_Ops) with _|r2
 rotate_left
 rcases h4:(r2) with _|_
 rotate_left
 rcases h5:(mkOk 1 a0_Bits a0_Bits) with _|_
 rotate_left
 have h6:(List.replicate (a0_Bits.toNat) [.b false]).flatten=enc c4 (List.replicate a0_Bits.toNat false):=enc_repl c4 _ _
 have h7:∀ i,AV.sl (some (i,0)) (a0_Bits.toNat) (.ex (a0_Bits.toNat))=AV.sl (some (i,0)) (List.replicate a0_Bits.toNat false).length (.ex (List.replicate a0_Bits.toNat false).length):=by intro i;simp only [List.length_replicate]
 simp -implicitDefEqProofs only [*,a22,vref24_Check,vref24_carries,runC_loop,EVA.down,ne_eq,seval]
 rw [lref24_CarryL3 (D+7) (by omega) F  _ F a1 0 0 a0_Qubits a0_Bits a0_Ops 0 0#64 0#64 0 a0_Qubits 0#64 0#64 0 (List.replicate a0_Bits.toNat false) _ (by simp only [*,a22,vref24_Check,vref24_carries,EVA.down,ne_eq,seval];try rfl)]
 rcases h8:(Pref24_CarryL3 F F a1 0 0 a0_Qubits a0_Bits a0_Ops 0 0#64 0#64 0 a0_Qubits 0#64 0#64 0 (List.replicate a0_Bits.toNat false)) with _|(⟨y3,y4,y5,y6,y7,y8,y9,y10,y11⟩|⟨y12,y13,y14,y15,y16,y17,y18,y19,y20,y21⟩)
 all_goals simp -implicitDefEqProofs only [*,a22,vref24_Check,vref24_carries,EVA.down,ne_eq,seval]
theorem vref24_Carry {D F n:Nat}{args:List AV}{h:AHeap}:OV F (D+1) 22 args h n (n+1)=evW 3 (OV F D) F a22 (frzs (frz true 0 (bif AV.nors args then [] else h) 8) args) (AV.nors args) (hglb h 3):=evV_frozen rfl
theorem elaw24_num (D:Nat)(hD:0≤D)(F:Nat)(a0:Int)(q:Bool):evW 3 (OV F D) F a11 (some [.i .i64 a0]) q G0 =
 some (.i .i64 ((Plaw24_num a0)),none):=by
 rw [evW_some,G0]
 skip
 all_goals simp -implicitDefEqProofs (maxSteps:=4000000) only [*,a11,Plaw24_num,EVA.down,ne_eq,seval]
theorem vlaw24_num {D F n:Nat}{args:List AV}{h:AHeap}:OV F (D+1) 11 args h n (n+1)=evW 3 (OV F D) F a11 (frzs (frz true 0 (bif AV.nors args then [] else h) 8) args) (AV.nors args) (hglb h 3):=evV_frozen rfl
theorem llaw24_boolsL0 (D:Nat)(hD:0≤D)(F:Nat)(v0 v1:List Bool)(K:AE→AS→Option Res):∀ (f:Nat) (v2:Int) (s:AS),s.keep [0,1,5] []=some ⟨[(0,.vs v0.length .unk (enc c4 v0)),(1,.vs v1.length .unk (enc c4 v1)),(5,.i .i64 v2)],[],[(1,tab64)],3⟩→
 evLoop (evC (OV F D) 3 F a23L0) f s K=match Plaw24_boolsL0 v0 v1 f v2 with|none=>none|some (.inl _)=>K .ret ⟨[(4,.b false)],[],[(1,tab64)],3⟩|some (.inr _)=>K (.ex 0) ⟨[],[],[(1,tab64)],3⟩:=by
 intro f
 induction f with
 |zero=>intro v2 s hs;simp only [evLoop,Plaw24_boolsL0]
 |succ f ih=>
 intro v2 s hs
 obtain ⟨k0,hk,hn,he,hr⟩:=@lk_all (OV F (D)) 3 F a23L0 f K
 rw [loop_succ,hk,a23L0,runC_cut,hs]
 clear hs
 simp only [Plaw24_boolsL0]
 clear hk
 by_cases h1:v2<(v0.length:Int)
 rcases ixo (@pk_c4 v0 v2) with h2|⟨x1,h2⟩
 rotate_left
 rcases ixo (@pk_c4 v1 v2) with h3|⟨x2,h3⟩
 rotate_left
 rcases h4:(x2) with _|_
 rcases h5:(x1) with _|_
 rotate_left
 rotate_left
 rcases h6:(x1) with _|_
 all_goals simp -implicitDefEqProofs (maxSteps:=4000000) only [*,-ih,EVA.down,ne_eq,seval]
 all_goals exact ih _ _ (by simp only [*,-ih,EVA.down,ne_eq,seval])
theorem elaw24_bools (D:Nat)(hD:0≤D)(F:Nat)(a0 a1:List Bool)(q:Bool):evW 3 (OV F D) F a23 (some [.vs a0.length .unk (enc c4 a0),.vs a1.length .unk (enc c4 a1)]) q G0 =
 match Plaw24_bools F a0 a1 with|none=>none|some r0=>some (.b r0,none):=by
 rw [evW_some,G0]
 simp only [Plaw24_bools]
 by_cases h1:(a0.length:Int)=(a1.length:Int)
 replace h1:=eq_true h1
 simp -implicitDefEqProofs (maxSteps:=4000000) only [*,a23,runC_loop,EVA.down,ne_eq,seval]
 rw [llaw24_boolsL0 (D) (by omega) F a0 a1 _ F 0 _ (by simp only [*,a23,EVA.down,ne_eq,seval];try rfl)]
 rcases h2:(Plaw24_boolsL0 a0 a1 F 0) with _|(_|_)
 all_goals simp -implicitDefEqProofs (maxSteps:=4000000) only [*,a23,EVA.down,ne_eq,seval]
theorem vlaw24_bools {D F n:Nat}{args:List AV}{h:AHeap}:OV F (D+1) 23 args h n (n+1)=evW 3 (OV F D) F a23 (frzs (frz true 0 (bif AV.nors args then [] else h) 8) args) (AV.nors args) (hglb h 3):=evV_frozen rfl
theorem elaw24_NoiseCarries (D:Nat)(hD:8≤D)(F:Nat)(a0_Qubits a0_Bits:Int)(a0_Ops:List S40)(a1:List S53)(q:Bool):evW 3 (OV F D) F a5 (some [.agg [.i .i64 a0_Qubits,.i .i64 a0_Bits,.vs a0_Ops.length .unk (enc S40.cs a0_Ops)],.vs a1.length .unk (enc S53.cs a1)]) q G0 =
 match Plaw24_NoiseCarries F a0_Qubits a0_Bits a0_Ops a1 with|none=>none|some r0=>some (.b r0,none):=by
 obtain ⟨D,rfl⟩:=dex hD
 have claw24_num0:=elaw24_num (D+7) (by omega) F
 have cnoise_Carry0:=enoise_Carry (D+7) (by omega) F
 have cref24_Carry0:=eref24_Carry (D+7) (by omega) F
 have claw24_bools0:=elaw24_bools (D+7) (by omega) F
 rw [evW_some,G0]
 simp only [Plaw24_NoiseCarries]
 rcases h1:(Pnoise_Carry F a0_Qubits a0_Bits a0_Ops a1) with _|⟨r1,r2,r3,r4,r5,r6,r7⟩
 rotate_left
 rcases h2:(Pref24_Carry F a0_Qubits a0_Bits a0_Ops a1) with _|⟨r8,r9,r10,r11,r12,r13,r14⟩
 rotate_left
 by_cases h3:(Plaw24_num r7)=r14
 replace h3:=eq_true h3
 rcases h4:((decide (r1=r8)&&(decide (r2=r9)&&(decide (r3=r10)&&decide (r4=r11))))) with _|_
 rotate_left
 rcases h5:(Plaw24_bools F r5 r12) with _|r15
 rotate_left
 rcases h6:(r15) with _|_
 rotate_left
 rcases h7:(Plaw24_bools F r6 r13) with _|r16
 rotate_left
 rcases h8:(r16) with _|_
 all_goals simp -implicitDefEqProofs (maxSteps:=4000000) only [*,a5,vlaw24_num,vnoise_Carry,vref24_Carry,vlaw24_bools,k15,EVA.down,ne_eq,seval]
theorem vlaw24_NoiseCarries {D F n:Nat}{args:List AV}{h:AHeap}:OV F (D+1) 5 args h n (n+1)=evW 3 (OV F D) F a5 (frzs (frz true 0 (bif AV.nors args then [] else h) 8) args) (AV.nors args) (hglb h 3):=evV_frozen rfl
end Go.Proofs.YtbbikmfjnanpmaaDoor.Ab
