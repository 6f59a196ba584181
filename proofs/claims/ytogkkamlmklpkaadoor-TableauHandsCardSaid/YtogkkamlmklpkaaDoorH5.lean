/- Functions of the program as plain functions, and that the abstract machine's evaluation comes to them. Written by G.py. No condition. -/
import Derived.Test.YtogkkamlmklpkaaDoorH4
set_option maxRecDepth 100000
set_option maxHeartbeats 4000000
set_option linter.unusedVariables false
set_option linter.unusedSimpArgs false
namespace Go.Proofs.YtogkkamlmklpkaaDoor.Ab
open Go
theorem ltb_OrderL13 (D:Nat)(hD:0≤D)(F:Nat)(v0:List Int)(v1 v2 v3 v5 v6:Int)(v8:List Pl)(K:AE→AS→Option Res):∀ (f:Nat) (v4:Int) (v7:List Pl) (s:AS),s.keepG 2 [1,4,7,9,39,40,41,45,46,47] [4,7]=some ⟨[(1,.vs v0.length .unk (enc c3 v0)),(4,.lp 4 0),(7,.lp 7 0),(9,.sl (some (2,0)) v7.length .op),(39,.sl (some (3,0)) 2 (.ex (2))),(40,.i .i64 v1),(41,.i .i64 v2),(45,.sl (some (2,0)) v7.length .op),(46,.i .i64 v3),(47,.i .i64 v4)],[(4,[.i .i64 v5,.sl none 0 (.ex 0),.sl none 0 (.ex 0)]),(7,[.i .i64 v6,.sl (some (4,0)) v8.length .op,.sl (some (2,0)) v7.length .op])],[(2,⟨true,true,39,4,enc Pl.cells v7⟩),(3,⟨true,false,22,1,[.sl (some (4,0)) v8.length .op,.sl (some (2,0)) v7.length .op]⟩),(4,⟨true,true,39,4,enc Pl.cells v8⟩),(0,tab64)],5⟩→
 evLoop (evC (OV F D) 2 F a69L1) f s K=match Ptb_OrderL13 F v0 v1 v2 v3 v5 v6 v8 f v4 v7 with|none=>none|some (y0)=>K (.ex 2) ⟨[(1,.vs v0.length .unk (enc c3 v0)),(4,.lp 4 0),(7,.lp 7 0),(39,.sl (some (2,0)) 2 (.ex (2))),(40,.i .i64 v1),(41,.i .i64 v2)],[(4,[.i .i64 v5,.sl none 0 (.ex 0),.sl none 0 (.ex 0)]),(7,[.i .i64 v6,.sl (some (3,0)) v8.length .op,.sl (some (4,0)) y0.length .op])],[(2,⟨true,false,22,1,[.sl (some (3,0)) v8.length .op,.sl (some (4,0)) y0.length .op]⟩),(3,⟨true,true,39,4,enc Pl.cells v8⟩),(4,⟨true,true,39,4,enc Pl.cells y0⟩),(0,tab64)],5⟩:=by
 intro f
 induction f with
 |zero=>intro v4 v7 s hs;simp only [evLoop,Ptb_OrderL13]
 |succ f ih=>
 intro v4 v7 s hs
 obtain ⟨k0,hk,hn,he,hr⟩:=@lk_all (OV F (D)) 2 F a69L1 f K
 rw [loop_succ,hk,a69L1,runC_cutg,hs]
 clear hs
 simp only [Ptb_OrderL13]
 clear hk
 by_cases h1:v4<v3
 rcases ixo (@pk_Pl_cells v7 v4) with h2|⟨x1,h2⟩
 rotate_left
 have h3:v4.toNat*4+1+1≤v7.length*4:=by have:=(idx_some h2.1).2.1;omega
 have h4:splice (enc Pl.cells v7) (v4.toNat*4+1) [.i .u64 (U (0#64))]=enc Pl.cells ((v7).set v4.toNat (⟨x1.N,0#64,x1.Z,x1.Ph⟩:Pl)):=enc_splice len_Pl_cells (idx_some h2.1).2.2 (show 1+1≤4 by decide) rfl
 rcases h5:(idx ((v7).set v4.toNat (⟨x1.N,0#64,x1.Z,x1.Ph⟩:Pl)) v4) with _|x2
 have h5o:inb v4 v7.length=false:=by have q:=idx_out h5;simpa only [List.length_set] using q
 first|exact absurd (show inb v4 v7.length=true by simp only [*,-ih,-h5o]) (by rw [h5o];exact Bool.false_ne_true)|rotate_left
 have h5i:inb v4 v7.length=true:=by have q:=idx_inb h5;simpa only [List.length_set] using q
 replace h5:=pk_Pl_cells h5
 have h6:v4.toNat*4+2+1≤v7.length*4:=by have:=(idx_some h5.1).2.1;(try simp only [List.length_set] at this);omega
 have h7:splice (enc Pl.cells ((v7).set v4.toNat (⟨x1.N,0#64,x1.Z,x1.Ph⟩:Pl))) (v4.toNat*4+2) [.i .u64 (U (0#64))]=enc Pl.cells (((v7).set v4.toNat (⟨x1.N,0#64,x1.Z,x1.Ph⟩:Pl)).set v4.toNat (⟨x2.N,x2.X,0#64,x2.Ph⟩:Pl)):=enc_splice len_Pl_cells (idx_some h5.1).2.2 (show 2+1≤4 by decide) rfl
 simp -implicitDefEqProofs only [*,-ih,runC_loop,EVA.down,ne_eq,seval]
 rw [ltb_OrderL12 (D) (by omega) F v0 v4 v1 v2 v3 v4 v0 (v0.length:Int) v5 v6 x1.N x1.X x1.Z x1.Ph v8 _ F 0 (((v7).set v4.toNat (⟨x1.N,0#64,x1.Z,x1.Ph⟩:Pl)).set v4.toNat (⟨x2.N,x2.X,0#64,x2.Ph⟩:Pl)) _ (by simp only [*,-ih,EVA.down,ne_eq,seval];try rfl)]
 rcases h8:(Ptb_OrderL12 v0 v4 v1 v2 v3 v4 v0 (v0.length:Int) v5 v6 x1.N x1.X x1.Z x1.Ph v8 F 0 (((v7).set v4.toNat (⟨x1.N,0#64,x1.Z,x1.Ph⟩:Pl)).set v4.toNat (⟨x2.N,x2.X,0#64,x2.Ph⟩:Pl))) with _|y3
 rotate_left
 have h8l0:y3.length=v7.length:=by have q:=ltb_OrderL12n0_0 v0 v4 v1 v2 v3 v4 v0 (v0.length:Int) v5 v6 x1.N x1.X x1.Z x1.Ph v8 F 0 (((v7).set v4.toNat (⟨x1.N,0#64,x1.Z,x1.Ph⟩:Pl)).set v4.toNat (⟨x2.N,x2.X,0#64,x2.Ph⟩:Pl)) y3 h8;simpa only [List.length_set] using q
 have h8t0:=len_facts h8l0
 all_goals simp -implicitDefEqProofs only [*,-ih,EVA.down,ne_eq,seval]
 all_goals exact ih _ _ _ (by simp only [*,-ih,EVA.down,ne_eq,seval])
theorem ltb_OrderL14 (D:Nat)(hD:0≤D)(F:Nat)(v0:List Int)(v1 v3 v4:Int)(K:AE→AS→Option Res):∀ (f:Nat) (v2:Int) (v5 v6:List Pl) (s:AS),s.keepG 2 [1,4,7,39,40,41] [4,7]=some ⟨[(1,.vs v0.length .unk (enc c3 v0)),(4,.lp 4 0),(7,.lp 7 0),(39,.sl (some (2,0)) 2 (.ex (2))),(40,.i .i64 v1),(41,.i .i64 v2)],[(4,[.i .i64 v3,.sl none 0 (.ex 0),.sl none 0 (.ex 0)]),(7,[.i .i64 v4,.sl (some (3,0)) v5.length .op,.sl (some (4,0)) v6.length .op])],[(2,⟨true,false,22,1,[.sl (some (3,0)) v5.length .op,.sl (some (4,0)) v6.length .op]⟩),(3,⟨true,true,39,4,enc Pl.cells v5⟩),(4,⟨true,true,39,4,enc Pl.cells v6⟩),(0,tab64)],5⟩→
 evLoop (evC (OV F D) 2 F a69L2) f s K=match Ptb_OrderL14 F v0 v1 v3 v4 f v2 v5 v6 with|none=>none|some (y0,y1)=>K (.ex 0) ⟨[(4,.lp 4 0),(7,.lp 7 0)],[(4,[.i .i64 v3,.sl none 0 (.ex 0),.sl none 0 (.ex 0)]),(7,[.i .i64 v4,.sl (some (2,0)) y0.length .op,.sl (some (3,0)) y1.length .op])],[(2,⟨true,true,39,4,enc Pl.cells y0⟩),(3,⟨true,true,39,4,enc Pl.cells y1⟩),(0,tab64)],4⟩:=by
 intro f
 induction f with
 |zero=>intro v2 v5 v6 s hs;simp only [evLoop,Ptb_OrderL14]
 |succ f ih=>
 intro v2 v5 v6 s hs
 obtain ⟨k0,hk,hn,he,hr⟩:=@lk_all (OV F (D)) 2 F a69L2 f K
 rw [loop_succ,hk,a69L2,runC_cutg,hs]
 clear hs
 simp only [Ptb_OrderL14]
 clear hk
 by_cases h1:v2<v1
 by_cases h2:v2=0
 replace h2:=eq_true h2
 have h3:inb v2 2=true:=by rw [(of_eq_true h2)];decide
 have h4:Int.toNat v2=0:=by rw [(of_eq_true h2)];rfl
 simp -implicitDefEqProofs only [*,-ih,runC_loop,EVA.down,ne_eq,seval]
 rw [ltb_OrderL11 (D) (by omega) F v0 v1 v2 ((v5.length:Nat):Int) v3 v4 v6 _ F 0 v5 _ (by simp only [*,-ih,EVA.down,ne_eq,seval];try rfl)]
 rcases h5:(Ptb_OrderL11 F v0 v1 v2 ((v5.length:Nat):Int) v3 v4 v6 F 0 v5) with _|y1
 rotate_left
 rotate_left
 by_cases h6:v2=1
 replace h6:=eq_true h6
 have h7:inb v2 2=true:=by rw [(of_eq_true h6)];decide
 have h8:Int.toNat v2=1:=by rw [(of_eq_true h6)];rfl
 simp -implicitDefEqProofs only [*,-ih,runC_loop,EVA.down,ne_eq,seval]
 rw [ltb_OrderL13 (D) (by omega) F v0 v1 v2 ((v6.length:Nat):Int) v3 v4 v5 _ F 0 v6 _ (by simp only [*,-ih,EVA.down,ne_eq,seval];try rfl)]
 rcases h9:(Ptb_OrderL13 F v0 v1 v2 ((v6.length:Nat):Int) v3 v4 v5 F 0 v6) with _|y2
 rotate_left
 rotate_left
 have h10:inb v2 2=false:=by simp only [inb,Bool.and_eq_false_iff,decide_eq_false_iff_not];omega
 all_goals simp -implicitDefEqProofs only [*,-ih,EVA.down,ne_eq,seval]
 all_goals exact ih _ _ _ _ (by simp only [*,-ih,EVA.down,ne_eq,seval])
theorem etb_Order (D:Nat)(hD:4≤D)(F:Nat)(a0_N:Int)(a0_Stab a0_Destab:List Pl)(a1:List Int)(q:Bool):evW 2 (OV F D) F a69 (some [.agg [.i .i64 a0_N,.vs a0_Stab.length .unk (enc Pl.cells a0_Stab),.vs a0_Destab.length .unk (enc Pl.cells a0_Destab)],.vs a1.length .unk (enc c3 a1)]) q G0 =
 match Ptb_Order F a0_N a0_Stab a0_Destab a1 with|none=>none|some (r0,r1,r2,r3)=>some (.tup [.agg [.i .i64 r0,.vs r1.length .unk (enc Pl.cells r1),.vs r2.length .unk (enc Pl.cells r2)],.i .i64 r3],none):=by
 obtain ⟨D,rfl⟩:=dex hD
 have ctb_Check0:=etb_Check (D+3) (by omega) F
 have ctb_copiedo0:=etb_copiedo (D+3) (by omega) F
 have ctb_unlike0:=etb_unlike (D+3) (by omega) F
 rw [evW_some,G0]
 simp only [Ptb_Order]
 rcases h1:(Ptb_Check F a0_N a0_Stab a0_Destab) with _|r1
 rotate_left
 by_cases h2:r1=0
 replace h2:=eq_true h2
 by_cases h3:(a1.length:Int)=a0_N
 replace h3:=eq_true h3
 rcases h4:(Ptb_unlike F a1 a0_N) with _|r2
 rotate_left
 rcases h5:(r2) with _|_
 rotate_left
 rcases h6:(Ptb_copied a0_N a0_Stab a0_Destab) with _|⟨r3,r4,r5⟩
 rotate_left
 by_cases h7:r4=[]
 replace h7:=eq_true h7
 by_cases h8:r5=[]
 replace h8:=eq_true h8
 simp -implicitDefEqProofs only [*,a69,vtb_Check,vtb_copiedo,vtb_unlike,runC_loop,EVA.down,ne_eq,seval]
 rw [ltb_OrderL1 (D+4) (by omega) F a1 2 0 r3 ([]) ([]) ([]) ([]) _ F 0 _ (by simp only [*,a69,vtb_Check,vtb_copiedo,vtb_unlike,EVA.down,ne_eq,seval];try rfl)]
 rcases h9:(Ptb_OrderL1 F a1 2 0 r3 ([]) ([]) ([]) ([]) F 0) with _|_
 rotate_left
 rotate_left
 simp -implicitDefEqProofs only [*,a69,vtb_Check,vtb_copiedo,vtb_unlike,runC_loop,EVA.down,ne_eq,seval]
 rw [ltb_OrderL5 (D+4) (by omega) F a1 2 0 r3 ([]) ([]) _ F 0 r5 _ (by simp only [*,a69,vtb_Check,vtb_copiedo,vtb_unlike,EVA.down,ne_eq,seval];try rfl)]
 rcases h10:(Ptb_OrderL5 F a1 2 0 r3 ([]) ([]) F 0 r5) with _|y6
 rotate_left
 rotate_left
 by_cases h11:r5=[]
 replace h11:=eq_true h11
 simp -implicitDefEqProofs only [*,a69,vtb_Check,vtb_copiedo,vtb_unlike,runC_loop,EVA.down,ne_eq,seval]
 rw [ltb_OrderL9 (D+4) (by omega) F a1 2 0 r3 ([]) ([]) _ F 0 r4 _ (by simp only [*,a69,vtb_Check,vtb_copiedo,vtb_unlike,EVA.down,ne_eq,seval];try rfl)]
 rcases h12:(Ptb_OrderL9 F a1 2 0 r3 ([]) ([]) F 0 r4) with _|y7
 rotate_left
 rotate_left
 simp -implicitDefEqProofs only [*,a69,vtb_Check,vtb_copiedo,vtb_unlike,runC_loop,EVA.down,ne_eq,seval]
 rw [ltb_OrderL14 (D+4) (by omega) F a1 2 0 r3 _ F 0 r4 r5 _ (by simp only [*,a69,vtb_Check,vtb_copiedo,vtb_unlike,EVA.down,ne_eq,seval];try rfl)]
 rcases h13:(Ptb_OrderL14 F a1 2 0 r3 F 0 r4 r5) with _|⟨y8,y9⟩
 all_goals simp -implicitDefEqProofs only [*,a69,vtb_Check,vtb_copiedo,vtb_unlike,EVA.down,ne_eq,seval]
theorem vtb_Order {D F n:Nat}{args:List AV}{h:AHeap}:OV F (D+1) 69 args h n (n+1)=evW 2 (OV F D) F a69 (frzs (frz true 0 (bif AV.nors args then [] else h) 8) args) (AV.nors args) (hglb h 2):=evV_frozen rfl
theorem lref14_apartL0 (D:Nat)(hD:0≤D)(F:Nat)(v0:List Int)(v1 v2:Int)(K:AE→AS→Option Res):∀ (f:Nat) (v3:Int) (s:AS),s.keep [0,1,5,6] []=some ⟨[(0,.vs v0.length .unk (enc c3 v0)),(1,.i .i64 v1),(5,.i .i64 v2),(6,.i .i64 v3)],[],[(0,tab64)],2⟩→
 evLoop (evC (OV F D) 2 F a94L0) f s K=match Pref14_apartL0 v0 v1 v2 f v3 with|none=>none|some (.inl _)=>K .ret ⟨[(4,.b false)],[],[(0,tab64)],2⟩|some (.inr _)=>K (.ex 2) ⟨[(0,.vs v0.length .unk (enc c3 v0)),(1,.i .i64 v1),(5,.i .i64 v2)],[],[(0,tab64)],2⟩:=by
 intro f
 induction f with
 |zero=>intro v3 s hs;simp only [evLoop,Pref14_apartL0]
 |succ f ih=>
 intro v3 s hs
 obtain ⟨k0,hk,hn,he,hr⟩:=@lk_all (OV F (D)) 2 F a94L0 f K
 rw [loop_succ,hk,a94L0,runC_cut,hs]
 clear hs
 simp only [Pref14_apartL0]
 clear hk
 by_cases h1:v3<v2
 rcases ixo (@pk_c3 v0 v3) with h2|⟨x1,h2⟩
 rotate_left
 rcases ixo (@pk_c3 v0 v2) with h3|⟨x2,h3⟩
 rotate_left
 by_cases h4:x1=x2
 replace h4:=eq_true h4
 all_goals simp -implicitDefEqProofs only [*,-ih,EVA.down,ne_eq,seval]
 all_goals exact ih _ _ (by simp only [*,-ih,EVA.down,ne_eq,seval])
theorem lref14_apartL1 (D:Nat)(hD:0≤D)(F:Nat)(v0:List Int)(v1:Int)(K:AE→AS→Option Res):∀ (f:Nat) (v2:Int) (s:AS),s.keep [0,1,5] []=some ⟨[(0,.vs v0.length .unk (enc c3 v0)),(1,.i .i64 v1),(5,.i .i64 v2)],[],[(0,tab64)],2⟩→
 evLoop (evC (OV F D) 2 F a94L1) f s K=match Pref14_apartL1 F v0 v1 f v2 with|none=>none|some (.inl _)=>K .ret ⟨[(4,.b false)],[],[(0,tab64)],2⟩|some (.inr _)=>K (.ex 0) ⟨[],[],[(0,tab64)],2⟩:=by
 intro f
 induction f with
 |zero=>intro v2 s hs;simp only [evLoop,Pref14_apartL1]
 |succ f ih=>
 intro v2 s hs
 obtain ⟨k0,hk,hn,he,hr⟩:=@lk_all (OV F (D)) 2 F a94L1 f K
 rw [loop_succ,hk,a94L1,runC_cut,hs]
 clear hs
 simp only [Pref14_apartL1]
 clear hk
 by_cases h1:v2<(v0.length:Int)
 rcases ixo (@pk_c3 v0 v2) with h2|⟨x1,h2⟩
 rotate_left
 by_cases h3:x1<0
 rotate_left
 by_cases h4:x1≥v1
 rotate_left
 simp -implicitDefEqProofs only [*,-ih,runC_loop,EVA.down,ne_eq,seval]
 rw [lref14_apartL0 (D) (by omega) F v0 v1 v2 _ F 0 _ (by simp only [*,-ih,EVA.down,ne_eq,seval];try rfl)]
 rcases h5:(Pref14_apartL0 v0 v1 v2 F 0) with _|(_|_)
 all_goals simp -implicitDefEqProofs only [*,-ih,EVA.down,ne_eq,seval]
 all_goals exact ih _ _ (by simp only [*,-ih,EVA.down,ne_eq,seval])
theorem eref14_apart (D:Nat)(hD:0≤D)(F:Nat)(a0:List Int)(a1:Int)(q:Bool):evW 2 (OV F D) F a94 (some [.vs a0.length .unk (enc c3 a0),.i .i64 a1]) q G0 =
 match Pref14_apart F a0 a1 with|none=>none|some r0=>some (.b r0,none):=by
 rw [evW_some,G0]
 simp only [Pref14_apart]
 simp -implicitDefEqProofs only [*,a94,runC_loop,EVA.down,ne_eq,seval]
 rw [lref14_apartL1 (D) (by omega) F a0 a1 _ F 0 _ (by simp only [*,a94,EVA.down,ne_eq,seval];try rfl)]
 rcases h1:(Pref14_apartL1 F a0 a1 F 0) with _|(_|_)
 all_goals simp -implicitDefEqProofs only [*,a94,EVA.down,ne_eq,seval]
theorem vref14_apart {D F n:Nat}{args:List AV}{h:AHeap}:OV F (D+1) 94 args h n (n+1)=evW 2 (OV F D) F a94 (frzs (frz true 0 (bif AV.nors args then [] else h) 8) args) (AV.nors args) (hglb h 2):=evV_frozen rfl
theorem lref14_orderedL0 (D:Nat)(hD:0≤D)(F:Nat)(v0:List Int)(v2:Int)(v3 v4:BitVec 64)(v5 v6:Int)(v7 v8:BitVec 64)(v9 v10 v13:Int)(K:AE→AS→Option Res):∀ (f:Nat) (v1:Int) (v11 v12:BitVec 64) (s:AS),s.keep [1,2,4,5,6] [2,4,5]=some ⟨[(1,.vs v0.length .unk (enc c3 v0)),(2,.lp 2 0),(4,.lp 4 0),(5,.lp 5 0),(6,.i .i64 v1)],[(2,[.i .i64 v2,.i .u64 (U v3),.i .u64 (U v4),.i .i64 v5]),(4,[.i .i64 v6,.i .u64 (U v7),.i .u64 (U v8),.i .i64 v9]),(5,[.i .i64 v10,.i .u64 (U v11),.i .u64 (U v12),.i .i64 v13])],[(0,tab64)],2⟩→
 evLoop (evC (OV F D) 2 F a95L0) f s K=match Pref14_orderedL0 v0 v2 v3 v4 v5 v6 v7 v8 v9 v10 v13 f v1 v11 v12 with|none=>none|some (y0,y1)=>K (.ex 0) ⟨[(4,.lp 4 0),(5,.lp 5 0)],[(4,[.i .i64 v6,.i .u64 (U v7),.i .u64 (U v8),.i .i64 v9]),(5,[.i .i64 v10,.i .u64 (U y0),.i .u64 (U y1),.i .i64 v13])],[(0,tab64)],2⟩:=by
 intro f
 induction f with
 |zero=>intro v1 v11 v12 s hs;simp only [evLoop,Pref14_orderedL0]
 |succ f ih=>
 intro v1 v11 v12 s hs
 obtain ⟨k0,hk,hn,he,hr⟩:=@lk_all (OV F (D)) 2 F a95L0 f K
 rw [loop_succ,hk,a95L0,runC_cut,hs]
 clear hs
 simp only [Pref14_orderedL0]
 clear hk
 by_cases h1:v1<(v0.length:Int)
 rcases ixo (@pk_c3 v0 v1) with h2|⟨x1,h2⟩
 all_goals simp -implicitDefEqProofs only [*,-ih,EVA.down,ne_eq,seval]
 all_goals exact ih _ _ _ _ (by simp only [*,-ih,EVA.down,ne_eq,seval])
theorem eref14_ordered (D:Nat)(hD:0≤D)(F:Nat)(a0_N:Int)(a0_X a0_Z:BitVec 64)(a0_Phase:Int)(a1:List Int)(q:Bool):evW 2 (OV F D) F a95 (some [.agg [.i .i64 a0_N,.i .u64 (U a0_X),.i .u64 (U a0_Z),.i .i64 a0_Phase],.vs a1.length .unk (enc c3 a1)]) q G0 =
 match Pref14_ordered F a0_N a0_X a0_Z a0_Phase a1 with|none=>none|some (r0,r1,r2,r3)=>some (.agg [.i .i64 r0,.i .u64 (U r1),.i .u64 (U r2),.i .i64 r3],none):=by
 rw [evW_some,G0]
 simp only [Pref14_ordered]
 simp -implicitDefEqProofs only [*,a95,runC_loop,EVA.down,ne_eq,seval]
 rw [lref14_orderedL0 (D) (by omega) F a1 a0_N a0_X a0_Z a0_Phase 0 0#64 0#64 0 a0_N a0_Phase _ F 0 0#64 0#64 _ (by simp only [*,a95,EVA.down,ne_eq,seval];try rfl)]
 rcases h1:(Pref14_orderedL0 a1 a0_N a0_X a0_Z a0_Phase 0 0#64 0#64 0 a0_N a0_Phase F 0 0#64 0#64) with _|⟨y1,y2⟩
 all_goals simp -implicitDefEqProofs only [*,a95,EVA.down,ne_eq,seval]
theorem vref14_ordered {D F n:Nat}{args:List AV}{h:AHeap}:OV F (D+1) 95 args h n (n+1)=evW 2 (OV F D) F a95 (frzs (frz true 0 (bif AV.nors args then [] else h) 8) args) (AV.nors args) (hglb h 2):=evV_frozen rfl
theorem lref14_OrderL0 (D:Nat)(hD:1≤D)(F:Nat)(v0:List Int)(v1 v2:Int)(v3 v4:List Pl)(v5 v6:Int)(v7 v8:List Pl)(K:AE→AS→Option Res):∀ (f:Nat) (s:AS),s.keepG 2 [1,2,4,6,7] [2,4,6]=some ⟨[(1,.vs v0.length .unk (enc c3 v0)),(2,.lp 2 0),(4,.lp 4 0),(6,.lp 6 0),(7,.i .i64 v1)],[(2,[.i .i64 v2,.vs v3.length .unk (enc Pl.cells v3),.vs v4.length .unk (enc Pl.cells v4)]),(4,[.i .i64 v5,.sl none 0 (.ex 0),.sl none 0 (.ex 0)]),(6,[.i .i64 v6,.vs v7.length .unk (enc Pl.cells v7),.vs v8.length .unk (enc Pl.cells v8)])],[(0,tab64)],2⟩→
 evLoop (evC (OV F D) 2 F a70L0) f s K=match Pref14_OrderL0 F v0 v1 v2 v3 v4 v5 v6 v7 v8 f with|none=>none|some (_)=>K (.ex 0) ⟨[(4,.lp 4 0),(6,.lp 6 0)],[(4,[.i .i64 v5,.sl none 0 (.ex 0),.sl none 0 (.ex 0)]),(6,[.i .i64 v6,.vs v7.length .unk (enc Pl.cells v7),.vs v8.length .unk (enc Pl.cells v8)])],[(0,tab64)],2⟩:=by
 obtain ⟨D,rfl⟩:=dex hD
 have cref14_ordered0:=eref14_ordered (D) (by omega) F
 intro f
 induction f with
 |zero=>intro s hs;simp only [evLoop,Pref14_OrderL0]
 |succ f ih=>
 intro s hs
 obtain ⟨k0,hk,hn,he,hr⟩:=@lk_all (OV F (D+1)) 2 F a70L0 f K
 rw [loop_succ,hk,a70L0,runC_cutg,hs]
 clear hs
 simp only [Pref14_OrderL0]
 clear hk
 by_cases h1:v1<v2
 rcases ixo (@pk_Pl_cells v3 v1) with h2|⟨x1,h2⟩
 rotate_left
 rcases h3:(Pref14_ordered F x1.N x1.X x1.Z x1.Ph v0) with _|⟨r2,r3,r4,r5⟩
 rotate_left
 rcases ixo (@pk_Pl_cells v7 v1) with h4|⟨x6,h4⟩
 all_goals simp -implicitDefEqProofs only [*,-ih,vref14_ordered,EVA.down,ne_eq,seval]
theorem lref14_OrderL1 (D:Nat)(hD:1≤D)(F:Nat)(v0:List Int)(v1 v2:Int)(v3 v4:List Pl)(v5 v6:Int)(v7 v8:List Pl)(K:AE→AS→Option Res):∀ (f:Nat) (s:AS),s.keepG 2 [1,2,4,6,7] [2,4,6]=some ⟨[(1,.vs v0.length .unk (enc c3 v0)),(2,.lp 2 0),(4,.lp 4 0),(6,.lp 6 0),(7,.i .i64 v1)],[(2,[.i .i64 v2,.vs v3.length .unk (enc Pl.cells v3),.vs v4.length .unk (enc Pl.cells v4)]),(4,[.i .i64 v5,.sl none 0 (.ex 0),.sl none 0 (.ex 0)]),(6,[.i .i64 v6,.vs v7.length .unk (enc Pl.cells v7),.sl (some (2,0)) v8.length .op])],[(2,⟨true,true,39,4,enc Pl.cells v8⟩),(0,tab64)],3⟩→
 evLoop (evC (OV F D) 2 F a70L0) f s K=match Pref14_OrderL1 F v0 v1 v2 v3 v4 v5 v6 v7 v8 f with|none=>none|some (_)=>K (.ex 0) ⟨[(4,.lp 4 0),(6,.lp 6 0)],[(4,[.i .i64 v5,.sl none 0 (.ex 0),.sl none 0 (.ex 0)]),(6,[.i .i64 v6,.vs v7.length .unk (enc Pl.cells v7),.sl (some (2,0)) v8.length .op])],[(2,⟨true,true,39,4,enc Pl.cells v8⟩),(0,tab64)],3⟩:=by
 obtain ⟨D,rfl⟩:=dex hD
 have cref14_ordered0:=eref14_ordered (D) (by omega) F
 intro f
 induction f with
 |zero=>intro s hs;simp only [evLoop,Pref14_OrderL1]
 |succ f ih=>
 intro s hs
 obtain ⟨k0,hk,hn,he,hr⟩:=@lk_all (OV F (D+1)) 2 F a70L0 f K
 rw [loop_succ,hk,a70L0,runC_cutg,hs]
 clear hs
 simp only [Pref14_OrderL1]
 clear hk
 by_cases h1:v1<v2
 rcases ixo (@pk_Pl_cells v3 v1) with h2|⟨x1,h2⟩
 rotate_left
 rcases h3:(Pref14_ordered F x1.N x1.X x1.Z x1.Ph v0) with _|⟨r2,r3,r4,r5⟩
 rotate_left
 rcases ixo (@pk_Pl_cells v7 v1) with h4|⟨x6,h4⟩
 all_goals simp -implicitDefEqProofs only [*,-ih,vref14_ordered,EVA.down,ne_eq,seval]
theorem lref14_OrderL2 (D:Nat)(hD:1≤D)(F:Nat)(v0:List Int)(v1 v2:Int)(v3 v4:List Pl)(v5 v6:Int)(v7 v8:List Pl)(K:AE→AS→Option Res):∀ (f:Nat) (s:AS),s.keepG 2 [1,2,4,6,7] [2,4,6]=some ⟨[(1,.vs v0.length .unk (enc c3 v0)),(2,.lp 2 0),(4,.lp 4 0),(6,.lp 6 0),(7,.i .i64 v1)],[(2,[.i .i64 v2,.vs v3.length .unk (enc Pl.cells v3),.vs v4.length .unk (enc Pl.cells v4)]),(4,[.i .i64 v5,.sl none 0 (.ex 0),.sl none 0 (.ex 0)]),(6,[.i .i64 v6,.sl (some (2,0)) v8.length .op,.vs v7.length .unk (enc Pl.cells v7)])],[(2,⟨true,true,39,4,enc Pl.cells v8⟩),(0,tab64)],3⟩→
 evLoop (evC (OV F D) 2 F a70L0) f s K=match Pref14_OrderL2 F v0 v1 v2 v3 v4 v5 v6 v7 v8 f with|none=>none|some (_)=>K (.ex 0) ⟨[(4,.lp 4 0),(6,.lp 6 0)],[(4,[.i .i64 v5,.sl none 0 (.ex 0),.sl none 0 (.ex 0)]),(6,[.i .i64 v6,.sl (some (2,0)) v8.length .op,.vs v7.length .unk (enc Pl.cells v7)])],[(2,⟨true,true,39,4,enc Pl.cells v8⟩),(0,tab64)],3⟩:=by
 obtain ⟨D,rfl⟩:=dex hD
 have cref14_ordered0:=eref14_ordered (D) (by omega) F
 intro f
 induction f with
 |zero=>intro s hs;simp only [evLoop,Pref14_OrderL2]
 |succ f ih=>
 intro s hs
 obtain ⟨k0,hk,hn,he,hr⟩:=@lk_all (OV F (D+1)) 2 F a70L0 f K
 rw [loop_succ,hk,a70L0,runC_cutg,hs]
 clear hs
 simp only [Pref14_OrderL2]
 clear hk
 by_cases h1:v1<v2
 rcases ixo (@pk_Pl_cells v3 v1) with h2|⟨x1,h2⟩
 rotate_left
 rcases h3:(Pref14_ordered F x1.N x1.X x1.Z x1.Ph v0) with _|⟨r2,r3,r4,r5⟩
 rotate_left
 rcases ixo (@pk_Pl_cells v8 v1) with h4|⟨x6,h4⟩
 rotate_left
 have h5:v1.toNat*4+4≤v8.length*4:=by have:=(idx_some h4.1).2.1;omega
 have h6:splice (enc Pl.cells v8) (v1.toNat*4) [.i .i64 r2,.i .u64 (U r3),.i .u64 (U r4),.i .i64 r5]=enc Pl.cells ((v8).set v1.toNat (⟨r2,r3,r4,r5⟩:Pl)):=own_put len_Pl_cells h4.1 (⟨r2,r3,r4,r5⟩:Pl)
 rcases ixo (@pk_Pl_cells v4 v1) with h7|⟨x7,h7⟩
 rotate_left
 rcases h8:(Pref14_ordered F x7.N x7.X x7.Z x7.Ph v0) with _|⟨r8,r9,r10,r11⟩
 rotate_left
 rcases ixo (@pk_Pl_cells v7 v1) with h9|⟨x12,h9⟩
 all_goals simp -implicitDefEqProofs only [*,-ih,vref14_ordered,EVA.down,ne_eq,seval]
theorem lref14_OrderL3 (D:Nat)(hD:1≤D)(F:Nat)(v0:List Int)(v2:Int)(v3 v4:List Pl)(v5 v6:Int)(K:AE→AS→Option Res):∀ (f:Nat) (v1:Int) (v7 v8:List Pl) (s:AS),s.keepG 2 [1,2,4,6,7] [2,4,6]=some ⟨[(1,.vs v0.length .unk (enc c3 v0)),(2,.lp 2 0),(4,.lp 4 0),(6,.lp 6 0),(7,.i .i64 v1)],[(2,[.i .i64 v2,.vs v3.length .unk (enc Pl.cells v3),.vs v4.length .unk (enc Pl.cells v4)]),(4,[.i .i64 v5,.sl none 0 (.ex 0),.sl none 0 (.ex 0)]),(6,[.i .i64 v6,.sl (some (2,0)) v7.length .op,.sl (some (3,0)) v8.length .op])],[(2,⟨true,true,39,4,enc Pl.cells v7⟩),(3,⟨true,true,39,4,enc Pl.cells v8⟩),(0,tab64)],4⟩→
 evLoop (evC (OV F D) 2 F a70L0) f s K=match Pref14_OrderL3 F v0 v2 v3 v4 v5 v6 f v1 v7 v8 with|none=>none|some (y0,y1)=>K (.ex 0) ⟨[(4,.lp 4 0),(6,.lp 6 0)],[(4,[.i .i64 v5,.sl none 0 (.ex 0),.sl none 0 (.ex 0)]),(6,[.i .i64 v6,.sl (some (2,0)) y0.length .op,.sl (some (3,0)) y1.length .op])],[(2,⟨true,true,39,4,enc Pl.cells y0⟩),(3,⟨true,true,39,4,enc Pl.cells y1⟩),(0,tab64)],4⟩:=by
 obtain ⟨D,rfl⟩:=dex hD
 have cref14_ordered0:=eref14_ordered (D) (by omega) F
 intro f
 induction f with
 |zero=>intro v1 v7 v8 s hs;simp only [evLoop,Pref14_OrderL3]
 |succ f ih=>
 intro v1 v7 v8 s hs
 obtain ⟨k0,hk,hn,he,hr⟩:=@lk_all (OV F (D+1)) 2 F a70L0 f K
 rw [loop_succ,hk,a70L0,runC_cutg,hs]
 clear hs
 simp only [Pref14_OrderL3]
 clear hk
 by_cases h1:v1<v2
 rcases ixo (@pk_Pl_cells v3 v1) with h2|⟨x1,h2⟩
 rotate_left
 rcases h3:(Pref14_ordered F x1.N x1.X x1.Z x1.Ph v0) with _|⟨r2,r3,r4,r5⟩
 rotate_left
 rcases ixo (@pk_Pl_cells v7 v1) with h4|⟨x6,h4⟩
 rotate_left
 have h5:v1.toNat*4+4≤v7.length*4:=by have:=(idx_some h4.1).2.1;omega
 have h6:splice (enc Pl.cells v7) (v1.toNat*4) [.i .i64 r2,.i .u64 (U r3),.i .u64 (U r4),.i .i64 r5]=enc Pl.cells ((v7).set v1.toNat (⟨r2,r3,r4,r5⟩:Pl)):=own_put len_Pl_cells h4.1 (⟨r2,r3,r4,r5⟩:Pl)
 rcases ixo (@pk_Pl_cells v4 v1) with h7|⟨x7,h7⟩
 rotate_left
 rcases h8:(Pref14_ordered F x7.N x7.X x7.Z x7.Ph v0) with _|⟨r8,r9,r10,r11⟩
 rotate_left
 rcases ixo (@pk_Pl_cells v8 v1) with h9|⟨x12,h9⟩
 rotate_left
 have h10:v1.toNat*4+4≤v8.length*4:=by have:=(idx_some h9.1).2.1;omega
 have h11:splice (enc Pl.cells v8) (v1.toNat*4) [.i .i64 r8,.i .u64 (U r9),.i .u64 (U r10),.i .i64 r11]=enc Pl.cells ((v8).set v1.toNat (⟨r8,r9,r10,r11⟩:Pl)):=own_put len_Pl_cells h9.1 (⟨r8,r9,r10,r11⟩:Pl)
 all_goals simp -implicitDefEqProofs only [*,-ih,vref14_ordered,EVA.down,ne_eq,seval]
 all_goals exact ih _ _ _ _ (by simp only [*,-ih,vref14_ordered,EVA.down,ne_eq,seval])
theorem eref14_Order (D:Nat)(hD:3≤D)(F:Nat)(a0_N:Int)(a0_Stab a0_Destab:List Pl)(a1:List Int)(q:Bool):evW 2 (OV F D) F a70 (some [.agg [.i .i64 a0_N,.vs a0_Stab.length .unk (enc Pl.cells a0_Stab),.vs a0_Destab.length .unk (enc Pl.cells a0_Destab)],.vs a1.length .unk (enc c3 a1)]) q G0 =
 match Pref14_Order F a0_N a0_Stab a0_Destab a1 with|none=>none|some (r0,r1,r2,r3)=>some (.tup [.agg [.i .i64 r0,.vs r1.length .unk (enc Pl.cells r1),.vs r2.length .unk (enc Pl.cells r2)],.i .i64 r3],none):=by
 obtain ⟨D,rfl⟩:=dex hD
 have cref14_Right0:=eref14_Right (D+2) (by omega) F
 have cref14_Copyo0:=eref14_Copyo (D+2) (by omega) F
 have cref14_apart0:=eref14_apart (D+2) (by omega) F
 rw [evW_some,G0]
 simp only [Pref14_Order]
 rcases h1:(Pref14_Right F a0_N a0_Stab a0_Destab) with _|r1
 rotate_left
 rcases h2:(r1) with _|_
 rotate_left
 by_cases h3:(a1.length:Int)=a0_N
 replace h3:=eq_true h3
 rcases h4:(Pref14_apart F a1 a0_N) with _|r2
 rotate_left
 rcases h5:(r2) with _|_
 rotate_left
 rcases h6:(Pref14_Copy a0_N a0_Stab a0_Destab) with _|⟨r3,r4,r5⟩
 rotate_left
 by_cases h7:r4=[]
 replace h7:=eq_true h7
 by_cases h8:r5=[]
 replace h8:=eq_true h8
 simp -implicitDefEqProofs only [*,a70,vref14_Right,vref14_Copyo,vref14_apart,runC_loop,EVA.down,ne_eq,seval]
 rw [lref14_OrderL0 (D+3) (by omega) F a1 0 a0_N a0_Stab a0_Destab 0 r3 ([]) ([]) _ F  _ (by simp only [*,a70,vref14_Right,vref14_Copyo,vref14_apart,EVA.down,ne_eq,seval];try rfl)]
 rcases h9:(Pref14_OrderL0 F a1 0 a0_N a0_Stab a0_Destab 0 r3 ([]) ([]) F) with _|_
 rotate_left
 rotate_left
 simp -implicitDefEqProofs only [*,a70,vref14_Right,vref14_Copyo,vref14_apart,runC_loop,EVA.down,ne_eq,seval]
 rw [lref14_OrderL1 (D+3) (by omega) F a1 0 a0_N a0_Stab a0_Destab 0 r3 ([]) r5 _ F  _ (by simp only [*,a70,vref14_Right,vref14_Copyo,vref14_apart,EVA.down,ne_eq,seval];try rfl)]
 rcases h10:(Pref14_OrderL1 F a1 0 a0_N a0_Stab a0_Destab 0 r3 ([]) r5 F) with _|_
 rotate_left
 rotate_left
 by_cases h11:r5=[]
 replace h11:=eq_true h11
 simp -implicitDefEqProofs only [*,a70,vref14_Right,vref14_Copyo,vref14_apart,runC_loop,EVA.down,ne_eq,seval]
 rw [lref14_OrderL2 (D+3) (by omega) F a1 0 a0_N a0_Stab a0_Destab 0 r3 ([]) r4 _ F  _ (by simp only [*,a70,vref14_Right,vref14_Copyo,vref14_apart,EVA.down,ne_eq,seval];try rfl)]
 rcases h12:(Pref14_OrderL2 F a1 0 a0_N a0_Stab a0_Destab 0 r3 ([]) r4 F) with _|_
 rotate_left
 rotate_left
 simp -implicitDefEqProofs only [*,a70,vref14_Right,vref14_Copyo,vref14_apart,runC_loop,EVA.down,ne_eq,seval]
 rw [lref14_OrderL3 (D+3) (by omega) F a1 a0_N a0_Stab a0_Destab 0 r3 _ F 0 r4 r5 _ (by simp only [*,a70,vref14_Right,vref14_Copyo,vref14_apart,EVA.down,ne_eq,seval];try rfl)]
 rcases h13:(Pref14_OrderL3 F a1 a0_N a0_Stab a0_Destab 0 r3 F 0 r4 r5) with _|⟨y6,y7⟩
 rotate_left
 have h13l0:y6.length=r4.length:=by have q:=lref14_OrderL3n0_0 F a1 a0_N a0_Stab a0_Destab 0 r3 F 0 r4 r5 y6 y7 h13;simpa only [List.length_set] using q
 have h13t0:=len_facts h13l0
 have h13l1:y7.length=r5.length:=by have q:=lref14_OrderL3n0_1 F a1 a0_N a0_Stab a0_Destab 0 r3 F 0 r4 r5 y6 y7 h13;simpa only [List.length_set] using q
 have h13t1:=len_facts h13l1
 all_goals simp -implicitDefEqProofs only [*,a70,vref14_Right,vref14_Copyo,vref14_apart,EVA.down,ne_eq,seval]
theorem vref14_Order {D F n:Nat}{args:List AV}{h:AHeap}:OV F (D+1) 70 args h n (n+1)=evW 2 (OV F D) F a70 (frzs (frz true 0 (bif AV.nors args then [] else h) 8) args) (AV.nors args) (hglb h 2):=evV_frozen rfl
theorem ltb_NewL0 (D:Nat)(hD:0≤D)(F:Nat)(K:AE→AS→Option Res):∀ (f:Nat) (v0 v1 v2 v3 v4:Int) (v5 v6:List Pl) (s:AS),s.keepG 2 [0,2,4,15,16] [2,4]=some ⟨[(0,.i .i64 v0),(2,.lp 2 0),(4,.lp 4 0),(15,.i .i64 v1),(16,.i .i64 v2)],[(2,[.i .i64 v3,.sl none 0 (.ex 0),.sl none 0 (.ex 0)]),(4,[.i .i64 v4,.sl (some (2,0)) v5.length .op,.sl (some (3,0)) v6.length .op])],[(2,⟨true,true,39,4,enc Pl.cells v5⟩),(3,⟨true,true,39,4,enc Pl.cells v6⟩),(0,tab64)],4⟩→
 evLoop (evC (OV F D) 2 F a11L0) f s K=match Ptb_NewL0 f v0 v1 v2 v3 v4 v5 v6 with|none=>none|some (.inl (y0,y1))=>K (.ex 0) ⟨[(2,.lp 2 0),(4,.lp 4 0)],[(2,[.i .i64 y0,.sl none 0 (.ex 0),.sl none 0 (.ex 0)]),(4,[.i .i64 y1,.sl none 0 (.ex 0),.sl none 0 (.ex 0)])],[(0,tab64)],2⟩|some (.inr (y0,y1,y2,y3))=>K (.ex 0) ⟨[(2,.lp 2 0),(4,.lp 4 0)],[(2,[.i .i64 y0,.sl none 0 (.ex 0),.sl none 0 (.ex 0)]),(4,[.i .i64 y1,.sl (some (2,0)) y2.length .op,.sl (some (3,0)) y3.length .op])],[(2,⟨true,true,39,4,enc Pl.cells y2⟩),(3,⟨true,true,39,4,enc Pl.cells y3⟩),(0,tab64)],4⟩:=by
 intro f
 induction f with
 |zero=>intro v0 v1 v2 v3 v4 v5 v6 s hs;simp only [evLoop,Ptb_NewL0]
 |succ f ih=>
 intro v0 v1 v2 v3 v4 v5 v6 s hs
 obtain ⟨k0,hk,hn,he,hr⟩:=@lk_all (OV F (D)) 2 F a11L0 f K
 rw [loop_succ,hk,a11L0,runC_cutg,hs]
 clear hs
 simp only [Ptb_NewL0]
 clear hk
 by_cases h1:v2<v1
 by_cases h2:v2<0
 rotate_left
 by_cases h3:(v5.length+1)*32≤140737488355328
 by_cases h4:(v6.length+1)*32≤140737488355328
 all_goals simp -implicitDefEqProofs only [*,-ih,EVA.down,ne_eq,seval]
 all_goals exact ih _ _ _ _ _ _ _ _ (by simp only [*,-ih,EVA.down,ne_eq,seval])
theorem ltb_NewL1 (D:Nat)(hD:0≤D)(F:Nat)(K:AE→AS→Option Res):∀ (f:Nat) (v0 v1 v2 v3 v4:Int) (s:AS),s.keepG 2 [0,2,4,15,16] [2,4]=some ⟨[(0,.i .i64 v0),(2,.lp 2 0),(4,.lp 4 0),(15,.i .i64 v1),(16,.i .i64 v2)],[(2,[.i .i64 v3,.sl none 0 (.ex 0),.sl none 0 (.ex 0)]),(4,[.i .i64 v4,.sl none 0 (.ex 0),.sl none 0 (.ex 0)])],[(0,tab64)],2⟩→
 evLoop (evC (OV F D) 2 F a11L0) f s K=match Ptb_NewL1 f v0 v1 v2 v3 v4 with|none=>none|some (.inl (y0,y1))=>K (.ex 0) ⟨[(2,.lp 2 0),(4,.lp 4 0)],[(2,[.i .i64 y0,.sl none 0 (.ex 0),.sl none 0 (.ex 0)]),(4,[.i .i64 y1,.sl none 0 (.ex 0),.sl none 0 (.ex 0)])],[(0,tab64)],2⟩|some (.inr (y0,y1,y2,y3))=>K (.ex 0) ⟨[(2,.lp 2 0),(4,.lp 4 0)],[(2,[.i .i64 y0,.sl none 0 (.ex 0),.sl none 0 (.ex 0)]),(4,[.i .i64 y1,.sl (some (2,0)) y2.length .op,.sl (some (3,0)) y3.length .op])],[(2,⟨true,true,39,4,enc Pl.cells y2⟩),(3,⟨true,true,39,4,enc Pl.cells y3⟩),(0,tab64)],4⟩:=by
 have nltb_NewL0:=ltb_NewL0 (D) (by omega) F K
 intro f
 induction f with
 |zero=>intro v0 v1 v2 v3 v4 s hs;simp only [evLoop,Ptb_NewL1]
 |succ f ih=>
 intro v0 v1 v2 v3 v4 s hs
 obtain ⟨k0,hk,hn,he,hr⟩:=@lk_all (OV F (D)) 2 F a11L0 f K
 rw [loop_succ,hk,a11L0,runC_cutg,hs]
 clear hs
 simp only [Ptb_NewL1]
 clear hk
 by_cases h1:v2<v1
 by_cases h2:v2<0
 all_goals simp -implicitDefEqProofs only [*,-ih,EVA.down,ne_eq,seval]
 all_goals exact nltb_NewL0 f _ _ _ _ _ _ _ _ (by simp only [*,-ih,EVA.down,ne_eq,seval])
theorem etb_New (D:Nat)(hD:0≤D)(F:Nat)(a0:Int)(q:Bool):evW 2 (OV F D) F a11 (some [.i .i64 a0]) q G0 =
 match Ptb_New F a0 with|none=>none|some (r0,r1,r2,r3)=>some (.tup [.agg [.i .i64 r0,.vs r1.length .unk (enc Pl.cells r1),.vs r2.length .unk (enc Pl.cells r2)],.i .i64 r3],none):=by
 rw [evW_some,G0]
 simp only [Ptb_New]
 by_cases h1:a0<0
 rotate_left
 by_cases h2:a0>64
 rotate_left
 simp -implicitDefEqProofs only [*,a11,runC_loop,EVA.down,ne_eq,seval]
 rw [ltb_NewL1 (D) (by omega) F  _ F a0 a0 0 0 a0 _ (by simp only [*,a11,EVA.down,ne_eq,seval];try rfl)]
 rcases h3:(Ptb_NewL1 F a0 a0 0 0 a0) with _|(⟨y1,y2⟩|⟨y3,y4,y5,y6⟩)
 all_goals simp -implicitDefEqProofs only [*,a11,EVA.down,ne_eq,seval]
theorem vtb_New {D F n:Nat}{args:List AV}{h:AHeap}:OV F (D+1) 11 args h n (n+1)=evW 2 (OV F D) F a11 (frzs (frz true 0 (bif AV.nors args then [] else h) 8) args) (AV.nors args) (hglb h 2):=evV_frozen rfl
theorem lref14_NewL0 (D:Nat)(hD:1≤D)(F:Nat)(K:AE→AS→Option Res):∀ (f:Nat) (v0 v1 v2 v3:Int) (v4 v5:List Pl) (s:AS),s.keepG 2 [0,2,4,5] [2,4]=some ⟨[(0,.i .i64 v0),(2,.lp 2 0),(4,.lp 4 0),(5,.i .i64 v1)],[(2,[.i .i64 v2,.sl none 0 (.ex 0),.sl none 0 (.ex 0)]),(4,[.i .i64 v3,.sl (some (2,0)) v4.length .op,.sl (some (3,0)) v5.length .op])],[(2,⟨true,true,39,4,enc Pl.cells v4⟩),(3,⟨true,true,39,4,enc Pl.cells v5⟩),(0,tab64)],4⟩→
 evLoop (evC (OV F D) 2 F a12L0) f s K=match Pref14_NewL0 f v0 v1 v2 v3 v4 v5 with|none=>none|some (.inl (y0,y1))=>K (.ex 0) ⟨[(2,.lp 2 0),(4,.lp 4 0)],[(2,[.i .i64 y0,.sl none 0 (.ex 0),.sl none 0 (.ex 0)]),(4,[.i .i64 y1,.sl none 0 (.ex 0),.sl none 0 (.ex 0)])],[(0,tab64)],2⟩|some (.inr (y0,y1,y2,y3))=>K (.ex 0) ⟨[(2,.lp 2 0),(4,.lp 4 0)],[(2,[.i .i64 y0,.sl none 0 (.ex 0),.sl none 0 (.ex 0)]),(4,[.i .i64 y1,.sl (some (2,0)) y2.length .op,.sl (some (3,0)) y3.length .op])],[(2,⟨true,true,39,4,enc Pl.cells y2⟩),(3,⟨true,true,39,4,enc Pl.cells y3⟩),(0,tab64)],4⟩:=by
 obtain ⟨D,rfl⟩:=dex hD
 have cref14_letter0:=eref14_letter (D) (by omega) F
 intro f
 induction f with
 |zero=>intro v0 v1 v2 v3 v4 v5 s hs;simp only [evLoop,Pref14_NewL0]
 |succ f ih=>
 intro v0 v1 v2 v3 v4 v5 s hs
 obtain ⟨k0,hk,hn,he,hr⟩:=@lk_all (OV F (D+1)) 2 F a12L0 f K
 rw [loop_succ,hk,a12L0,runC_cutg,hs]
 clear hs
 simp only [Pref14_NewL0]
 clear hk
 by_cases h1:v1<v0
 rcases h2:(Pref14_letter v0 v1 false) with ⟨r1,r2,r3,r4⟩
 by_cases h3:(v4.length+1)*32≤140737488355328
 rcases h4:(Pref14_letter v0 v1 true) with ⟨r5,r6,r7,r8⟩
 by_cases h5:(v5.length+1)*32≤140737488355328
 all_goals simp -implicitDefEqProofs only [*,-ih,vref14_letter,EVA.down,ne_eq,seval]
 all_goals exact ih _ _ _ _ _ _ _ (by simp only [*,-ih,vref14_letter,EVA.down,ne_eq,seval])
theorem lref14_NewL1 (D:Nat)(hD:1≤D)(F:Nat)(K:AE→AS→Option Res):∀ (f:Nat) (v0 v1 v2 v3:Int) (s:AS),s.keepG 2 [0,2,4,5] [2,4]=some ⟨[(0,.i .i64 v0),(2,.lp 2 0),(4,.lp 4 0),(5,.i .i64 v1)],[(2,[.i .i64 v2,.sl none 0 (.ex 0),.sl none 0 (.ex 0)]),(4,[.i .i64 v3,.sl none 0 (.ex 0),.sl none 0 (.ex 0)])],[(0,tab64)],2⟩→
 evLoop (evC (OV F D) 2 F a12L0) f s K=match Pref14_NewL1 f v0 v1 v2 v3 with|none=>none|some (.inl (y0,y1))=>K (.ex 0) ⟨[(2,.lp 2 0),(4,.lp 4 0)],[(2,[.i .i64 y0,.sl none 0 (.ex 0),.sl none 0 (.ex 0)]),(4,[.i .i64 y1,.sl none 0 (.ex 0),.sl none 0 (.ex 0)])],[(0,tab64)],2⟩|some (.inr (y0,y1,y2,y3))=>K (.ex 0) ⟨[(2,.lp 2 0),(4,.lp 4 0)],[(2,[.i .i64 y0,.sl none 0 (.ex 0),.sl none 0 (.ex 0)]),(4,[.i .i64 y1,.sl (some (2,0)) y2.length .op,.sl (some (3,0)) y3.length .op])],[(2,⟨true,true,39,4,enc Pl.cells y2⟩),(3,⟨true,true,39,4,enc Pl.cells y3⟩),(0,tab64)],4⟩:=by
 obtain ⟨D,rfl⟩:=dex hD
 have cref14_letter0:=eref14_letter (D) (by omega) F
 have nlref14_NewL0:=lref14_NewL0 (D+1) (by omega) F K
 intro f
 induction f with
 |zero=>intro v0 v1 v2 v3 s hs;simp only [evLoop,Pref14_NewL1]
 |succ f ih=>
 intro v0 v1 v2 v3 s hs
 obtain ⟨k0,hk,hn,he,hr⟩:=@lk_all (OV F (D+1)) 2 F a12L0 f K
 rw [loop_succ,hk,a12L0,runC_cutg,hs]
 clear hs
 simp only [Pref14_NewL1]
 clear hk
 by_cases h1:v1<v0
 rcases h2:(Pref14_letter v0 v1 false) with ⟨r1,r2,r3,r4⟩
 rcases h3:(Pref14_letter v0 v1 true) with ⟨r5,r6,r7,r8⟩
 all_goals simp -implicitDefEqProofs only [*,-ih,vref14_letter,EVA.down,ne_eq,seval]
 all_goals exact nlref14_NewL0 f _ _ _ _ _ _ _ (by simp only [*,-ih,vref14_letter,EVA.down,ne_eq,seval])
theorem eref14_New (D:Nat)(hD:1≤D)(F:Nat)(a0:Int)(q:Bool):evW 2 (OV F D) F a12 (some [.i .i64 a0]) q G0 =
 match Pref14_New F a0 with|none=>none|some (r0,r1,r2,r3)=>some (.tup [.agg [.i .i64 r0,.vs r1.length .unk (enc Pl.cells r1),.vs r2.length .unk (enc Pl.cells r2)],.i .i64 r3],none):=by
 obtain ⟨D,rfl⟩:=dex hD
 rw [evW_some,G0]
 simp only [Pref14_New]
 by_cases h1:a0<0
 rotate_left
 by_cases h2:a0>64
 rotate_left
 simp -implicitDefEqProofs only [*,a12,runC_loop,EVA.down,ne_eq,seval]
 rw [lref14_NewL1 (D+1) (by omega) F  _ F a0 0 0 a0 _ (by simp only [*,a12,EVA.down,ne_eq,seval];try rfl)]
 rcases h3:(Pref14_NewL1 F a0 0 0 a0) with _|(⟨y1,y2⟩|⟨y3,y4,y5,y6⟩)
 all_goals simp -implicitDefEqProofs only [*,a12,EVA.down,ne_eq,seval]
theorem vref14_New {D F n:Nat}{args:List AV}{h:AHeap}:OV F (D+1) 12 args h n (n+1)=evW 2 (OV F D) F a12 (frzs (frz true 0 (bif AV.nors args then [] else h) 8) args) (AV.nors args) (hglb h 2):=evV_frozen rfl
theorem etb_moved (D:Nat)(hD:0≤D)(F:Nat)(a0_N:Int)(a0_X a0_Z:BitVec 64)(a0_Phase a1 a2:Int)(q:Bool):evW 2 (OV F D) F a74 (some [.agg [.i .i64 a0_N,.i .u64 (U a0_X),.i .u64 (U a0_Z),.i .i64 a0_Phase],.i .i64 a1,.i .i64 a2]) q G0 =
 match Ptb_moved a0_N a0_X a0_Z a0_Phase a1 a2 with|none=>none|some (r0,r1,r2,r3)=>some (.agg [.i .i64 r0,.i .u64 (U r1),.i .u64 (U r2),.i .i64 r3],none):=by
 rw [evW_some,G0]
 simp only [Ptb_moved]
 by_cases h1:a2<0
 all_goals simp -implicitDefEqProofs only [*,a74,EVA.down,ne_eq,seval]
theorem vtb_moved {D F n:Nat}{args:List AV}{h:AHeap}:OV F (D+1) 74 args h n (n+1)=evW 2 (OV F D) F a74 (frzs (frz true 0 (bif AV.nors args then [] else h) 8) args) (AV.nors args) (hglb h 2):=evV_frozen rfl
theorem ltb_KronL0 (D:Nat)(hD:1≤D)(F:Nat)(K:AE→AS→Option Res):∀ (f:Nat) (v0 v1 v2 v3:Int) (v4 v5:List Pl) (v6:Int) (v7 v8:List Pl) (v9 v10:Int) (v11 v12:List Pl) (s:AS),s.keepG 2 [2,3,4,6,7,30,31] [2,3,4,7]=some ⟨[(2,.lp 2 0),(3,.lp 3 0),(4,.lp 4 0),(6,.i .i64 v0),(7,.lp 7 0),(30,.i .i64 v1),(31,.i .i64 v2)],[(2,[.i .i64 v3,.vs v4.length .unk (enc Pl.cells v4),.vs v5.length .unk (enc Pl.cells v5)]),(3,[.i .i64 v6,.vs v7.length .unk (enc Pl.cells v7),.vs v8.length .unk (enc Pl.cells v8)]),(4,[.i .i64 v9,.sl none 0 (.ex 0),.sl none 0 (.ex 0)]),(7,[.i .i64 v10,.sl (some (2,0)) v11.length .op,.sl (some (3,0)) v12.length .op])],[(2,⟨true,true,39,4,enc Pl.cells v11⟩),(3,⟨true,true,39,4,enc Pl.cells v12⟩),(0,tab64)],4⟩→
 evLoop (evC (OV F D) 2 F a33L0) f s K=match Ptb_KronL0 f v0 v1 v2 v3 v4 v5 v6 v7 v8 v9 v10 v11 v12 with|none=>none|some (.inl (y0,y1,y2,y3,y4,y5,y6,y7,y8))=>K (.ex 0) ⟨[(2,.lp 2 0),(3,.lp 3 0),(4,.lp 4 0),(6,.i .i64 y0),(7,.lp 7 0)],[(2,[.i .i64 y1,.vs y2.length .unk (enc Pl.cells y2),.vs y3.length .unk (enc Pl.cells y3)]),(3,[.i .i64 y4,.vs y5.length .unk (enc Pl.cells y5),.vs y6.length .unk (enc Pl.cells y6)]),(4,[.i .i64 y7,.sl none 0 (.ex 0),.sl none 0 (.ex 0)]),(7,[.i .i64 y8,.sl none 0 (.ex 0),.sl none 0 (.ex 0)])],[(0,tab64)],2⟩|some (.inr (y0,y1,y2,y3,y4,y5,y6,y7,y8,y9,y10))=>K (.ex 0) ⟨[(2,.lp 2 0),(3,.lp 3 0),(4,.lp 4 0),(6,.i .i64 y0),(7,.lp 7 0)],[(2,[.i .i64 y1,.vs y2.length .unk (enc Pl.cells y2),.vs y3.length .unk (enc Pl.cells y3)]),(3,[.i .i64 y4,.vs y5.length .unk (enc Pl.cells y5),.vs y6.length .unk (enc Pl.cells y6)]),(4,[.i .i64 y7,.sl none 0 (.ex 0),.sl none 0 (.ex 0)]),(7,[.i .i64 y8,.sl (some (2,0)) y9.length .op,.sl (some (3,0)) y10.length .op])],[(2,⟨true,true,39,4,enc Pl.cells y9⟩),(3,⟨true,true,39,4,enc Pl.cells y10⟩),(0,tab64)],4⟩:=by
 obtain ⟨D,rfl⟩:=dex hD
 have ctb_moved0:=etb_moved (D) (by omega) F
 intro f
 induction f with
 |zero=>intro v0 v1 v2 v3 v4 v5 v6 v7 v8 v9 v10 v11 v12 s hs;simp only [evLoop,Ptb_KronL0]
 |succ f ih=>
 intro v0 v1 v2 v3 v4 v5 v6 v7 v8 v9 v10 v11 v12 s hs
 obtain ⟨k0,hk,hn,he,hr⟩:=@lk_all (OV F (D+1)) 2 F a33L0 f K
 rw [loop_succ,hk,a33L0,runC_cutg,hs]
 clear hs
 simp only [Ptb_KronL0]
 clear hk
 by_cases h1:v2<v1
 rcases ixo (@pk_Pl_cells v7 v2) with h2|⟨x1,h2⟩
 rotate_left
 rcases h3:(Ptb_moved x1.N x1.X x1.Z x1.Ph v0 0) with _|⟨r2,r3,r4,r5⟩
 rotate_left
 by_cases h4:(v11.length+1)*32≤140737488355328
 rcases ixo (@pk_Pl_cells v8 v2) with h5|⟨x6,h5⟩
 rotate_left
 rcases h6:(Ptb_moved x6.N x6.X x6.Z x6.Ph v0 0) with _|⟨r7,r8,r9,r10⟩
 rotate_left
 by_cases h7:(v12.length+1)*32≤140737488355328
 all_goals simp -implicitDefEqProofs only [*,-ih,vtb_moved,EVA.down,ne_eq,seval]
 all_goals exact ih _ _ _ _ _ _ _ _ _ _ _ _ _ _ (by simp only [*,-ih,vtb_moved,EVA.down,ne_eq,seval])
theorem ltb_KronL1 (D:Nat)(hD:1≤D)(F:Nat)(K:AE→AS→Option Res):∀ (f:Nat) (v0 v1 v2 v3:Int) (v4 v5:List Pl) (v6:Int) (v7 v8:List Pl) (v9 v10:Int) (s:AS),s.keepG 2 [2,3,4,6,7,30,31] [2,3,4,7]=some ⟨[(2,.lp 2 0),(3,.lp 3 0),(4,.lp 4 0),(6,.i .i64 v0),(7,.lp 7 0),(30,.i .i64 v1),(31,.i .i64 v2)],[(2,[.i .i64 v3,.vs v4.length .unk (enc Pl.cells v4),.vs v5.length .unk (enc Pl.cells v5)]),(3,[.i .i64 v6,.vs v7.length .unk (enc Pl.cells v7),.vs v8.length .unk (enc Pl.cells v8)]),(4,[.i .i64 v9,.sl none 0 (.ex 0),.sl none 0 (.ex 0)]),(7,[.i .i64 v10,.sl none 0 (.ex 0),.sl none 0 (.ex 0)])],[(0,tab64)],2⟩→
 evLoop (evC (OV F D) 2 F a33L0) f s K=match Ptb_KronL1 f v0 v1 v2 v3 v4 v5 v6 v7 v8 v9 v10 with|none=>none|some (.inl (y0,y1,y2,y3,y4,y5,y6,y7,y8))=>K (.ex 0) ⟨[(2,.lp 2 0),(3,.lp 3 0),(4,.lp 4 0),(6,.i .i64 y0),(7,.lp 7 0)],[(2,[.i .i64 y1,.vs y2.length .unk (enc Pl.cells y2),.vs y3.length .unk (enc Pl.cells y3)]),(3,[.i .i64 y4,.vs y5.length .unk (enc Pl.cells y5),.vs y6.length .unk (enc Pl.cells y6)]),(4,[.i .i64 y7,.sl none 0 (.ex 0),.sl none 0 (.ex 0)]),(7,[.i .i64 y8,.sl none 0 (.ex 0),.sl none 0 (.ex 0)])],[(0,tab64)],2⟩|some (.inr (y0,y1,y2,y3,y4,y5,y6,y7,y8,y9,y10))=>K (.ex 0) ⟨[(2,.lp 2 0),(3,.lp 3 0),(4,.lp 4 0),(6,.i .i64 y0),(7,.lp 7 0)],[(2,[.i .i64 y1,.vs y2.length .unk (enc Pl.cells y2),.vs y3.length .unk (enc Pl.cells y3)]),(3,[.i .i64 y4,.vs y5.length .unk (enc Pl.cells y5),.vs y6.length .unk (enc Pl.cells y6)]),(4,[.i .i64 y7,.sl none 0 (.ex 0),.sl none 0 (.ex 0)]),(7,[.i .i64 y8,.sl (some (2,0)) y9.length .op,.sl (some (3,0)) y10.length .op])],[(2,⟨true,true,39,4,enc Pl.cells y9⟩),(3,⟨true,true,39,4,enc Pl.cells y10⟩),(0,tab64)],4⟩:=by
 obtain ⟨D,rfl⟩:=dex hD
 have ctb_moved0:=etb_moved (D) (by omega) F
 have nltb_KronL0:=ltb_KronL0 (D+1) (by omega) F K
 intro f
 induction f with
 |zero=>intro v0 v1 v2 v3 v4 v5 v6 v7 v8 v9 v10 s hs;simp only [evLoop,Ptb_KronL1]
 |succ f ih=>
 intro v0 v1 v2 v3 v4 v5 v6 v7 v8 v9 v10 s hs
 obtain ⟨k0,hk,hn,he,hr⟩:=@lk_all (OV F (D+1)) 2 F a33L0 f K
 rw [loop_succ,hk,a33L0,runC_cutg,hs]
 clear hs
 simp only [Ptb_KronL1]
 clear hk
 by_cases h1:v2<v1
 rcases ixo (@pk_Pl_cells v7 v2) with h2|⟨x1,h2⟩
 rotate_left
 rcases h3:(Ptb_moved x1.N x1.X x1.Z x1.Ph v0 0) with _|⟨r2,r3,r4,r5⟩
 rotate_left
 rcases ixo (@pk_Pl_cells v8 v2) with h4|⟨x6,h4⟩
 rotate_left
 rcases h5:(Ptb_moved x6.N x6.X x6.Z x6.Ph v0 0) with _|⟨r7,r8,r9,r10⟩
 all_goals simp -implicitDefEqProofs only [*,-ih,vtb_moved,EVA.down,ne_eq,seval]
 all_goals exact nltb_KronL0 f _ _ _ _ _ _ _ _ _ _ _ _ _ _ (by simp only [*,-ih,vtb_moved,EVA.down,ne_eq,seval])
theorem ltb_KronL2 (D:Nat)(hD:1≤D)(F:Nat)(K:AE→AS→Option Res):∀ (f:Nat) (v0 v1 v2 v3:Int) (v4 v5:List Pl) (v6:Int) (v7 v8:List Pl) (v9 v10:Int) (v11 v12:List Pl) (s:AS),s.keepG 2 [2,3,4,6,7,60,61] [2,3,4,7]=some ⟨[(2,.lp 2 0),(3,.lp 3 0),(4,.lp 4 0),(6,.i .i64 v0),(7,.lp 7 0),(60,.i .i64 v1),(61,.i .i64 v2)],[(2,[.i .i64 v3,.vs v4.length .unk (enc Pl.cells v4),.vs v5.length .unk (enc Pl.cells v5)]),(3,[.i .i64 v6,.vs v7.length .unk (enc Pl.cells v7),.vs v8.length .unk (enc Pl.cells v8)]),(4,[.i .i64 v9,.sl none 0 (.ex 0),.sl none 0 (.ex 0)]),(7,[.i .i64 v10,.sl (some (2,0)) v11.length .op,.sl (some (3,0)) v12.length .op])],[(2,⟨true,true,39,4,enc Pl.cells v11⟩),(3,⟨true,true,39,4,enc Pl.cells v12⟩),(0,tab64)],4⟩→
 evLoop (evC (OV F D) 2 F a33L1) f s K=match Ptb_KronL2 f v0 v1 v2 v3 v4 v5 v6 v7 v8 v9 v10 v11 v12 with|none=>none|some (.inl (y0,y1))=>K (.ex 2) ⟨[(4,.lp 4 0),(7,.lp 7 0)],[(4,[.i .i64 y0,.sl none 0 (.ex 0),.sl none 0 (.ex 0)]),(7,[.i .i64 y1,.sl none 0 (.ex 0),.sl none 0 (.ex 0)])],[(0,tab64)],2⟩|some (.inr (y0,y1,y2,y3))=>K (.ex 2) ⟨[(4,.lp 4 0),(7,.lp 7 0)],[(4,[.i .i64 y0,.sl none 0 (.ex 0),.sl none 0 (.ex 0)]),(7,[.i .i64 y1,.sl (some (2,0)) y2.length .op,.sl (some (3,0)) y3.length .op])],[(2,⟨true,true,39,4,enc Pl.cells y2⟩),(3,⟨true,true,39,4,enc Pl.cells y3⟩),(0,tab64)],4⟩:=by
 obtain ⟨D,rfl⟩:=dex hD
 have ctb_moved0:=etb_moved (D) (by omega) F
 intro f
 induction f with
 |zero=>intro v0 v1 v2 v3 v4 v5 v6 v7 v8 v9 v10 v11 v12 s hs;simp only [evLoop,Ptb_KronL2]
 |succ f ih=>
 intro v0 v1 v2 v3 v4 v5 v6 v7 v8 v9 v10 v11 v12 s hs
 obtain ⟨k0,hk,hn,he,hr⟩:=@lk_all (OV F (D+1)) 2 F a33L1 f K
 rw [loop_succ,hk,a33L1,runC_cutg,hs]
 clear hs
 simp only [Ptb_KronL2]
 clear hk
 by_cases h1:v2<v1
 rcases ixo (@pk_Pl_cells v4 v2) with h2|⟨x1,h2⟩
 rotate_left
 rcases h3:(Ptb_moved x1.N x1.X x1.Z x1.Ph v0 v6) with _|⟨r2,r3,r4,r5⟩
 rotate_left
 by_cases h4:(v11.length+1)*32≤140737488355328
 rcases ixo (@pk_Pl_cells v5 v2) with h5|⟨x6,h5⟩
 rotate_left
 rcases h6:(Ptb_moved x6.N x6.X x6.Z x6.Ph v0 v6) with _|⟨r7,r8,r9,r10⟩
 rotate_left
 by_cases h7:(v12.length+1)*32≤140737488355328
 all_goals simp -implicitDefEqProofs only [*,-ih,vtb_moved,EVA.down,ne_eq,seval]
 all_goals exact ih _ _ _ _ _ _ _ _ _ _ _ _ _ _ (by simp only [*,-ih,vtb_moved,EVA.down,ne_eq,seval])
theorem ltb_KronL3 (D:Nat)(hD:1≤D)(F:Nat)(K:AE→AS→Option Res):∀ (f:Nat) (v0 v1 v2 v3:Int) (v4 v5:List Pl) (v6:Int) (v7 v8:List Pl) (v9 v10:Int) (s:AS),s.keepG 2 [2,3,4,6,7,60,61] [2,3,4,7]=some ⟨[(2,.lp 2 0),(3,.lp 3 0),(4,.lp 4 0),(6,.i .i64 v0),(7,.lp 7 0),(60,.i .i64 v1),(61,.i .i64 v2)],[(2,[.i .i64 v3,.vs v4.length .unk (enc Pl.cells v4),.vs v5.length .unk (enc Pl.cells v5)]),(3,[.i .i64 v6,.vs v7.length .unk (enc Pl.cells v7),.vs v8.length .unk (enc Pl.cells v8)]),(4,[.i .i64 v9,.sl none 0 (.ex 0),.sl none 0 (.ex 0)]),(7,[.i .i64 v10,.sl none 0 (.ex 0),.sl none 0 (.ex 0)])],[(0,tab64)],2⟩→
 evLoop (evC (OV F D) 2 F a33L1) f s K=match Ptb_KronL3 f v0 v1 v2 v3 v4 v5 v6 v7 v8 v9 v10 with|none=>none|some (.inl (y0,y1))=>K (.ex 2) ⟨[(4,.lp 4 0),(7,.lp 7 0)],[(4,[.i .i64 y0,.sl none 0 (.ex 0),.sl none 0 (.ex 0)]),(7,[.i .i64 y1,.sl none 0 (.ex 0),.sl none 0 (.ex 0)])],[(0,tab64)],2⟩|some (.inr (y0,y1,y2,y3))=>K (.ex 2) ⟨[(4,.lp 4 0),(7,.lp 7 0)],[(4,[.i .i64 y0,.sl none 0 (.ex 0),.sl none 0 (.ex 0)]),(7,[.i .i64 y1,.sl (some (2,0)) y2.length .op,.sl (some (3,0)) y3.length .op])],[(2,⟨true,true,39,4,enc Pl.cells y2⟩),(3,⟨true,true,39,4,enc Pl.cells y3⟩),(0,tab64)],4⟩:=by
 obtain ⟨D,rfl⟩:=dex hD
 have ctb_moved0:=etb_moved (D) (by omega) F
 have nltb_KronL2:=ltb_KronL2 (D+1) (by omega) F K
 intro f
 induction f with
 |zero=>intro v0 v1 v2 v3 v4 v5 v6 v7 v8 v9 v10 s hs;simp only [evLoop,Ptb_KronL3]
 |succ f ih=>
 intro v0 v1 v2 v3 v4 v5 v6 v7 v8 v9 v10 s hs
 obtain ⟨k0,hk,hn,he,hr⟩:=@lk_all (OV F (D+1)) 2 F a33L1 f K
 rw [loop_succ,hk,a33L1,runC_cutg,hs]
 clear hs
 simp only [Ptb_KronL3]
 clear hk
 by_cases h1:v2<v1
 rcases ixo (@pk_Pl_cells v4 v2) with h2|⟨x1,h2⟩
 rotate_left
 rcases h3:(Ptb_moved x1.N x1.X x1.Z x1.Ph v0 v6) with _|⟨r2,r3,r4,r5⟩
 rotate_left
 rcases ixo (@pk_Pl_cells v5 v2) with h4|⟨x6,h4⟩
 rotate_left
 rcases h5:(Ptb_moved x6.N x6.X x6.Z x6.Ph v0 v6) with _|⟨r7,r8,r9,r10⟩
 all_goals simp -implicitDefEqProofs only [*,-ih,vtb_moved,EVA.down,ne_eq,seval]
 all_goals exact nltb_KronL2 f _ _ _ _ _ _ _ _ _ _ _ _ _ _ (by simp only [*,-ih,vtb_moved,EVA.down,ne_eq,seval])
theorem etb_Kron (D:Nat)(hD:4≤D)(F:Nat)(a0_N:Int)(a0_Stab a0_Destab:List Pl)(a1_N:Int)(a1_Stab a1_Destab:List Pl)(q:Bool):evW 2 (OV F D) F a33 (some [.agg [.i .i64 a0_N,.vs a0_Stab.length .unk (enc Pl.cells a0_Stab),.vs a0_Destab.length .unk (enc Pl.cells a0_Destab)],.agg [.i .i64 a1_N,.vs a1_Stab.length .unk (enc Pl.cells a1_Stab),.vs a1_Destab.length .unk (enc Pl.cells a1_Destab)]]) q G0 =
 match Ptb_Kron F a0_N a0_Stab a0_Destab a1_N a1_Stab a1_Destab with|none=>none|some (r0,r1,r2,r3)=>some (.tup [.agg [.i .i64 r0,.vs r1.length .unk (enc Pl.cells r1),.vs r2.length .unk (enc Pl.cells r2)],.i .i64 r3],none):=by
 obtain ⟨D,rfl⟩:=dex hD
 have ctb_Check0:=etb_Check (D+3) (by omega) F
 rw [evW_some,G0]
 simp only [Ptb_Kron]
 rcases h1:(Ptb_Check F a0_N a0_Stab a0_Destab) with _|r1
 rotate_left
 by_cases h2:r1=0
 replace h2:=eq_true h2
 rcases h3:(Ptb_Check F a1_N a1_Stab a1_Destab) with _|r2
 rotate_left
 by_cases h4:r2=0
 replace h4:=eq_true h4
 by_cases h5:(IntKind.i64.wrap (a0_N+a1_N))>64
 rotate_left
 simp -implicitDefEqProofs only [*,a33,vtb_Check,runC_loop,EVA.down,ne_eq,seval]
 rw [ltb_KronL1 (D+4) (by omega) F  _ F (IntKind.i64.wrap (a0_N+a1_N)) a1_N 0 a0_N a0_Stab a0_Destab a1_N a1_Stab a1_Destab 0 (IntKind.i64.wrap (a0_N+a1_N)) _ (by simp only [*,a33,vtb_Check,EVA.down,ne_eq,seval];try rfl)]
 rcases h6:(Ptb_KronL1 F (IntKind.i64.wrap (a0_N+a1_N)) a1_N 0 a0_N a0_Stab a0_Destab a1_N a1_Stab a1_Destab 0 (IntKind.i64.wrap (a0_N+a1_N))) with _|(⟨y3,y4,y5,y6,y7,y8,y9,y10,y11⟩|⟨y12,y13,y14,y15,y16,y17,y18,y19,y20,y21,y22⟩)
 rotate_left
 simp -implicitDefEqProofs only [*,a33,vtb_Check,runC_loop,EVA.down,ne_eq,seval]
 rw [ltb_KronL3 (D+4) (by omega) F  _ F y3 y4 0 y4 y5 y6 y7 y8 y9 y10 y11 _ (by simp only [*,a33,vtb_Check,EVA.down,ne_eq,seval];try rfl)]
 rcases h7:(Ptb_KronL3 F y3 y4 0 y4 y5 y6 y7 y8 y9 y10 y11) with _|(⟨y23,y24⟩|⟨y25,y26,y27,y28⟩)
 rotate_left
 rotate_left
 rotate_left
 simp -implicitDefEqProofs only [*,a33,vtb_Check,runC_loop,EVA.down,ne_eq,seval]
 rw [ltb_KronL2 (D+4) (by omega) F  _ F y12 y13 0 y13 y14 y15 y16 y17 y18 y19 y20 y21 y22 _ (by simp only [*,a33,vtb_Check,EVA.down,ne_eq,seval];try rfl)]
 rcases h8:(Ptb_KronL2 F y12 y13 0 y13 y14 y15 y16 y17 y18 y19 y20 y21 y22) with _|(⟨y29,y30⟩|⟨y31,y32,y33,y34⟩)
 all_goals simp -implicitDefEqProofs only [*,a33,vtb_Check,EVA.down,ne_eq,seval]
theorem vtb_Kron {D F n:Nat}{args:List AV}{h:AHeap}:OV F (D+1) 33 args h n (n+1)=evW 2 (OV F D) F a33 (frzs (frz true 0 (bif AV.nors args then [] else h) 8) args) (AV.nors args) (hglb h 2):=evV_frozen rfl
theorem lref14_KronL0 (D:Nat)(hD:0≤D)(F:Nat)(K:AE→AS→Option Res):∀ (f:Nat) (v0 v1:Int) (v2:BitVec 64) (v3 v4:Int) (v5 v6:List Pl) (v7:Int) (v8 v9:List Pl) (v10 v11 v12:Int) (v13 v14 v15 v16:List Pl) (s:AS),s.keepG 2 [2,3,4,6,7,8,9,10,11] [2,3,4,7,9]=some ⟨[(2,.lp 2 0),(3,.lp 3 0),(4,.lp 4 0),(6,.i .i64 v0),(7,.lp 7 0),(8,.i .i64 v1),(9,.lp 9 0),(10,.i .u64 (U v2)),(11,.i .i64 v3)],[(2,[.i .i64 v4,.vs v5.length .unk (enc Pl.cells v5),.vs v6.length .unk (enc Pl.cells v6)]),(3,[.i .i64 v7,.vs v8.length .unk (enc Pl.cells v8),.vs v9.length .unk (enc Pl.cells v9)]),(4,[.i .i64 v10,.sl none 0 (.ex 0),.sl none 0 (.ex 0)]),(7,[.i .i64 v11,.sl (some (2,0)) v15.length .op,.sl (some (3,0)) v16.length .op]),(9,[.i .i64 v12,.vs v13.length .unk (enc Pl.cells v13),.vs v14.length .unk (enc Pl.cells v14)])],[(2,⟨true,true,39,4,enc Pl.cells v15⟩),(3,⟨true,true,39,4,enc Pl.cells v16⟩),(0,tab64)],4⟩→
 evLoop (evC (OV F D) 2 F a34L0) f s K=match Pref14_KronL0 f v0 v1 v2 v3 v4 v5 v6 v7 v8 v9 v10 v11 v12 v13 v14 v15 v16 with|none=>none|some (.inl (y0,y1,y2,y3,y4,y5,y6,y7,y8,y9))=>K (.ex 2) ⟨[(2,.lp 2 0),(3,.lp 3 0),(4,.lp 4 0),(6,.i .i64 y0),(7,.lp 7 0),(8,.i .i64 y1)],[(2,[.i .i64 y2,.vs y3.length .unk (enc Pl.cells y3),.vs y4.length .unk (enc Pl.cells y4)]),(3,[.i .i64 y5,.vs y6.length .unk (enc Pl.cells y6),.vs y7.length .unk (enc Pl.cells y7)]),(4,[.i .i64 y8,.sl none 0 (.ex 0),.sl none 0 (.ex 0)]),(7,[.i .i64 y9,.sl none 0 (.ex 0),.sl none 0 (.ex 0)])],[(0,tab64)],2⟩|some (.inr (y0,y1,y2,y3,y4,y5,y6,y7,y8,y9,y10,y11))=>K (.ex 2) ⟨[(2,.lp 2 0),(3,.lp 3 0),(4,.lp 4 0),(6,.i .i64 y0),(7,.lp 7 0),(8,.i .i64 y1)],[(2,[.i .i64 y2,.vs y3.length .unk (enc Pl.cells y3),.vs y4.length .unk (enc Pl.cells y4)]),(3,[.i .i64 y5,.vs y6.length .unk (enc Pl.cells y6),.vs y7.length .unk (enc Pl.cells y7)]),(4,[.i .i64 y8,.sl none 0 (.ex 0),.sl none 0 (.ex 0)]),(7,[.i .i64 y9,.sl (some (2,0)) y10.length .op,.sl (some (3,0)) y11.length .op])],[(2,⟨true,true,39,4,enc Pl.cells y10⟩),(3,⟨true,true,39,4,enc Pl.cells y11⟩),(0,tab64)],4⟩:=by
 intro f
 induction f with
 |zero=>intro v0 v1 v2 v3 v4 v5 v6 v7 v8 v9 v10 v11 v12 v13 v14 v15 v16 s hs;simp only [evLoop,Pref14_KronL0]
 |succ f ih=>
 intro v0 v1 v2 v3 v4 v5 v6 v7 v8 v9 v10 v11 v12 v13 v14 v15 v16 s hs
 obtain ⟨k0,hk,hn,he,hr⟩:=@lk_all (OV F (D)) 2 F a34L0 f K
 rw [loop_succ,hk,a34L0,runC_cutg,hs]
 clear hs
 simp only [Pref14_KronL0]
 clear hk
 by_cases h1:v3<v12
 rcases ixo (@pk_Pl_cells v13 v3) with h2|⟨x1,h2⟩
 rotate_left
 rcases ixo (@pk_Pl_cells v14 v3) with h3|⟨x2,h3⟩
 rotate_left
 by_cases h4:(v15.length+1)*32≤140737488355328
 by_cases h5:(v16.length+1)*32≤140737488355328
 all_goals simp -implicitDefEqProofs only [*,-ih,EVA.down,ne_eq,seval]
 all_goals exact ih _ _ _ _ _ _ _ _ _ _ _ _ _ _ _ _ _ _ (by simp only [*,-ih,EVA.down,ne_eq,seval])
theorem lref14_KronL1 (D:Nat)(hD:0≤D)(F:Nat)(K:AE→AS→Option Res):∀ (f:Nat) (v0 v1:Int) (v2:BitVec 64) (v3 v4:Int) (v5 v6:List Pl) (v7:Int) (v8 v9:List Pl) (v10 v11 v12:Int) (v13 v14:List Pl) (s:AS),s.keepG 2 [2,3,4,6,7,8,9,10,11] [2,3,4,7,9]=some ⟨[(2,.lp 2 0),(3,.lp 3 0),(4,.lp 4 0),(6,.i .i64 v0),(7,.lp 7 0),(8,.i .i64 v1),(9,.lp 9 0),(10,.i .u64 (U v2)),(11,.i .i64 v3)],[(2,[.i .i64 v4,.vs v5.length .unk (enc Pl.cells v5),.vs v6.length .unk (enc Pl.cells v6)]),(3,[.i .i64 v7,.vs v8.length .unk (enc Pl.cells v8),.vs v9.length .unk (enc Pl.cells v9)]),(4,[.i .i64 v10,.sl none 0 (.ex 0),.sl none 0 (.ex 0)]),(7,[.i .i64 v11,.sl none 0 (.ex 0),.sl none 0 (.ex 0)]),(9,[.i .i64 v12,.vs v13.length .unk (enc Pl.cells v13),.vs v14.length .unk (enc Pl.cells v14)])],[(0,tab64)],2⟩→
 evLoop (evC (OV F D) 2 F a34L0) f s K=match Pref14_KronL1 f v0 v1 v2 v3 v4 v5 v6 v7 v8 v9 v10 v11 v12 v13 v14 with|none=>none|some (.inl (y0,y1,y2,y3,y4,y5,y6,y7,y8,y9))=>K (.ex 2) ⟨[(2,.lp 2 0),(3,.lp 3 0),(4,.lp 4 0),(6,.i .i64 y0),(7,.lp 7 0),(8,.i .i64 y1)],[(2,[.i .i64 y2,.vs y3.length .unk (enc Pl.cells y3),.vs y4.length .unk (enc Pl.cells y4)]),(3,[.i .i64 y5,.vs y6.length .unk (enc Pl.cells y6),.vs y7.length .unk (enc Pl.cells y7)]),(4,[.i .i64 y8,.sl none 0 (.ex 0),.sl none 0 (.ex 0)]),(7,[.i .i64 y9,.sl none 0 (.ex 0),.sl none 0 (.ex 0)])],[(0,tab64)],2⟩|some (.inr (y0,y1,y2,y3,y4,y5,y6,y7,y8,y9,y10,y11))=>K (.ex 2) ⟨[(2,.lp 2 0),(3,.lp 3 0),(4,.lp 4 0),(6,.i .i64 y0),(7,.lp 7 0),(8,.i .i64 y1)],[(2,[.i .i64 y2,.vs y3.length .unk (enc Pl.cells y3),.vs y4.length .unk (enc Pl.cells y4)]),(3,[.i .i64 y5,.vs y6.length .unk (enc Pl.cells y6),.vs y7.length .unk (enc Pl.cells y7)]),(4,[.i .i64 y8,.sl none 0 (.ex 0),.sl none 0 (.ex 0)]),(7,[.i .i64 y9,.sl (some (2,0)) y10.length .op,.sl (some (3,0)) y11.length .op])],[(2,⟨true,true,39,4,enc Pl.cells y10⟩),(3,⟨true,true,39,4,enc Pl.cells y11⟩),(0,tab64)],4⟩:=by
 have nlref14_KronL0:=lref14_KronL0 (D) (by omega) F K
 intro f
 induction f with
 |zero=>intro v0 v1 v2 v3 v4 v5 v6 v7 v8 v9 v10 v11 v12 v13 v14 s hs;simp only [evLoop,Pref14_KronL1]
 |succ f ih=>
 intro v0 v1 v2 v3 v4 v5 v6 v7 v8 v9 v10 v11 v12 v13 v14 s hs
 obtain ⟨k0,hk,hn,he,hr⟩:=@lk_all (OV F (D)) 2 F a34L0 f K
 rw [loop_succ,hk,a34L0,runC_cutg,hs]
 clear hs
 simp only [Pref14_KronL1]
 clear hk
 by_cases h1:v3<v12
 rcases ixo (@pk_Pl_cells v13 v3) with h2|⟨x1,h2⟩
 rotate_left
 rcases ixo (@pk_Pl_cells v14 v3) with h3|⟨x2,h3⟩
 all_goals simp -implicitDefEqProofs only [*,-ih,EVA.down,ne_eq,seval]
 all_goals exact nlref14_KronL0 f _ _ _ _ _ _ _ _ _ _ _ _ _ _ _ _ _ _ (by simp only [*,-ih,EVA.down,ne_eq,seval])
theorem lref14_KronL2 (D:Nat)(hD:0≤D)(F:Nat)(v0 v1:Int)(v2:BitVec 64)(v4:Int)(v5 v6:List Pl)(v7:Int)(v8 v9:List Pl)(v10 v11 v12:Int)(v13 v14:List Pl)(K:AE→AS→Option Res):∀ (f:Nat) (v3:Int) (v15 v16:List Pl) (s:AS),s.keepG 2 [2,3,4,6,7,8,9,10,11] [2,3,4,7,9]=some ⟨[(2,.lp 2 0),(3,.lp 3 0),(4,.lp 4 0),(6,.i .i64 v0),(7,.lp 7 0),(8,.i .i64 v1),(9,.lp 9 0),(10,.i .u64 (U v2)),(11,.i .i64 v3)],[(2,[.i .i64 v4,.vs v5.length .unk (enc Pl.cells v5),.vs v6.length .unk (enc Pl.cells v6)]),(3,[.i .i64 v7,.vs v8.length .unk (enc Pl.cells v8),.vs v9.length .unk (enc Pl.cells v9)]),(4,[.i .i64 v10,.sl none 0 (.ex 0),.sl none 0 (.ex 0)]),(7,[.i .i64 v11,.sl (some (2,0)) v15.length .op,.sl (some (3,0)) v16.length .op]),(9,[.i .i64 v12,.vs v13.length .unk (enc Pl.cells v13),.vs v14.length .unk (enc Pl.cells v14)])],[(2,⟨true,true,39,4,enc Pl.cells v15⟩),(3,⟨true,true,39,4,enc Pl.cells v16⟩),(0,tab64)],4⟩→
 evLoop (evC (OV F D) 2 F a34L0) f s K=match Pref14_KronL2 v0 v1 v2 v4 v5 v6 v7 v8 v9 v10 v11 v12 v13 v14 f v3 v15 v16 with|none=>none|some (y0,y1)=>K (.ex 2) ⟨[(2,.lp 2 0),(3,.lp 3 0),(4,.lp 4 0),(6,.i .i64 v0),(7,.lp 7 0),(8,.i .i64 v1)],[(2,[.i .i64 v4,.vs v5.length .unk (enc Pl.cells v5),.vs v6.length .unk (enc Pl.cells v6)]),(3,[.i .i64 v7,.vs v8.length .unk (enc Pl.cells v8),.vs v9.length .unk (enc Pl.cells v9)]),(4,[.i .i64 v10,.sl none 0 (.ex 0),.sl none 0 (.ex 0)]),(7,[.i .i64 v11,.sl (some (2,0)) y0.length .op,.sl (some (3,0)) y1.length .op])],[(2,⟨true,true,39,4,enc Pl.cells y0⟩),(3,⟨true,true,39,4,enc Pl.cells y1⟩),(0,tab64)],4⟩:=by
 intro f
 induction f with
 |zero=>intro v3 v15 v16 s hs;simp only [evLoop,Pref14_KronL2]
 |succ f ih=>
 intro v3 v15 v16 s hs
 obtain ⟨k0,hk,hn,he,hr⟩:=@lk_all (OV F (D)) 2 F a34L0 f K
 rw [loop_succ,hk,a34L0,runC_cutg,hs]
 clear hs
 simp only [Pref14_KronL2]
 clear hk
 by_cases h1:v3<v12
 rcases ixo (@pk_Pl_cells v13 v3) with h2|⟨x1,h2⟩
 rotate_left
 rcases ixo (@pk_Pl_cells v14 v3) with h3|⟨x2,h3⟩
 rotate_left
 by_cases h4:(v15.length+1)*32≤140737488355328
 by_cases h5:(v16.length+1)*32≤140737488355328
 all_goals simp -implicitDefEqProofs only [*,-ih,EVA.down,ne_eq,seval]
 all_goals exact ih _ _ _ _ (by simp only [*,-ih,EVA.down,ne_eq,seval])
end Go.Proofs.YtogkkamlmklpkaaDoor.Ab
