/- Functions of the program as plain functions, the functions alone. Written by G.py. No condition. -/
import Derived.Test.YtogkkamlmklpkaaDoorK1
set_option maxRecDepth 100000
set_option maxHeartbeats 4000000
set_option linter.unusedVariables false
set_option linter.unusedSimpArgs false
namespace Go.Proofs.YtogkkamlmklpkaaDoor.Ab
open Go
structure S69 where
  f_Kind:Int
  f_Gate:Int
  f_Q:List Int
  f_Value:Int
  deriving DecidableEq
def Ppauli_Check (a0_N:Int)(a0_X a0_Z:BitVec 64)(a0_Phase:Int):Int:=
  if a0_N<0 then 130
  else if a0_N>64 then 130
   else if a0_Phase<0 then 130
   else if a0_Phase>3 then 130
   else if a0_N<64 then if ((a0_X ||| a0_Z) >>> a0_N.toNat)=0#64 then 0
   else 130
   else 0
def Ppauli_right (a0_N:Int)(a0_X a0_Z:BitVec 64)(a0_Phase:Int):Bool:=
  decide ((Ppauli_Check a0_N a0_X a0_Z a0_Phase)=0)
def Ppauli_Hermitian (a0_N:Int)(a0_X a0_Z:BitVec 64)(a0_Phase:Int):Bool:=
  bif (Ppauli_right a0_N a0_X a0_Z a0_Phase) then decide ((a0_Phase.tmod 2)=0)
  else false
def Ptb_CheckL0 (v0 v1 v2 v4:Int)(v5 v6:List Pl)(v7:Int)(v8 v9:BitVec 64)(v10 v11:Int)(v12 v13:BitVec 64)(v14:Int):Nat→Int→Option (Unit⊕(Unit))
  |0,_=>none
  |f+1,v3=>
   if v3<v2 then if v3=0 then if v7=v4 then bif (Ppauli_Hermitian v7 v8 v9 v10) then Ptb_CheckL0 v0 v1 v2 v4 v5 v6 v7 v8 v9 v10 v11 v12 v13 v14 f (IntKind.i64.wrap (v3+1))
   else some (.inl ())
   else some (.inl ())
   else if v3=1 then if v11=v4 then bif (Ppauli_Hermitian v11 v12 v13 v14) then Ptb_CheckL0 v0 v1 v2 v4 v5 v6 v7 v8 v9 v10 v11 v12 v13 v14 f (IntKind.i64.wrap (v3+1))
   else some (.inl ())
   else some (.inl ())
   else none
   else some (.inr ())
def Ptb_CheckL1 (F:Nat)(v0 v2:Int)(v3 v4:List Pl):Nat→Int→Option (Unit⊕(Unit))
  |0,_=>none
  |f+1,v1=>
   if v1<v0 then match idx v3 v1 with
   |none=>none
   |some x1=>(match idx v4 v1 with
   |none=>none
   |some x2=>(match Ptb_CheckL0 v0 v1 2 v2 v3 v4 x1.N x1.X x1.Z x1.Ph x2.N x2.X x2.Z x2.Ph F 0 with
   |none=>none
   |some (.inl _)=>some (.inl ())
   |some (.inr _)=>Ptb_CheckL1 F v0 v2 v3 v4 f (IntKind.i64.wrap (v1+1))))
   else some (.inr ())
def Pbits_OnesCount64 (a0:BitVec 64):Int:=
  bitop .and .i64 (((((((((((((a0 >>> (1:Nat)) &&& 6148914691236517205#64)+(a0 &&& 6148914691236517205#64)) >>> (2:Nat)) &&& 3689348814741910323#64)+((((a0 >>> (1:Nat)) &&& 6148914691236517205#64)+(a0 &&& 6148914691236517205#64)) &&& 3689348814741910323#64)) >>> (4:Nat))+((((((a0 >>> (1:Nat)) &&& 6148914691236517205#64)+(a0 &&& 6148914691236517205#64)) >>> (2:Nat)) &&& 3689348814741910323#64)+((((a0 >>> (1:Nat)) &&& 6148914691236517205#64)+(a0 &&& 6148914691236517205#64)) &&& 3689348814741910323#64))) &&& 1085102592571150095#64)+((((((((((a0 >>> (1:Nat)) &&& 6148914691236517205#64)+(a0 &&& 6148914691236517205#64)) >>> (2:Nat)) &&& 3689348814741910323#64)+((((a0 >>> (1:Nat)) &&& 6148914691236517205#64)+(a0 &&& 6148914691236517205#64)) &&& 3689348814741910323#64)) >>> (4:Nat))+((((((a0 >>> (1:Nat)) &&& 6148914691236517205#64)+(a0 &&& 6148914691236517205#64)) >>> (2:Nat)) &&& 3689348814741910323#64)+((((a0 >>> (1:Nat)) &&& 6148914691236517205#64)+(a0 &&& 6148914691236517205#64)) &&& 3689348814741910323#64))) &&& 1085102592571150095#64) >>> (8:Nat)))+(((((((((((a0 >>> (1:Nat)) &&& 6148914691236517205#64)+(a0 &&& 6148914691236517205#64)) >>> (2:Nat)) &&& 3689348814741910323#64)+((((a0 >>> (1:Nat)) &&& 6148914691236517205#64)+(a0 &&& 6148914691236517205#64)) &&& 3689348814741910323#64)) >>> (4:Nat))+((((((a0 >>> (1:Nat)) &&& 6148914691236517205#64)+(a0 &&& 6148914691236517205#64)) >>> (2:Nat)) &&& 3689348814741910323#64)+((((a0 >>> (1:Nat)) &&& 6148914691236517205#64)+(a0 &&& 6148914691236517205#64)) &&& 3689348814741910323#64))) &&& 1085102592571150095#64)+((((((((((a0 >>> (1:Nat)) &&& 6148914691236517205#64)+(a0 &&& 6148914691236517205#64)) >>> (2:Nat)) &&& 3689348814741910323#64)+((((a0 >>> (1:Nat)) &&& 6148914691236517205#64)+(a0 &&& 6148914691236517205#64)) &&& 3689348814741910323#64)) >>> (4:Nat))+((((((a0 >>> (1:Nat)) &&& 6148914691236517205#64)+(a0 &&& 6148914691236517205#64)) >>> (2:Nat)) &&& 3689348814741910323#64)+((((a0 >>> (1:Nat)) &&& 6148914691236517205#64)+(a0 &&& 6148914691236517205#64)) &&& 3689348814741910323#64))) &&& 1085102592571150095#64) >>> (8:Nat))) >>> (16:Nat)))+((((((((((((a0 >>> (1:Nat)) &&& 6148914691236517205#64)+(a0 &&& 6148914691236517205#64)) >>> (2:Nat)) &&& 3689348814741910323#64)+((((a0 >>> (1:Nat)) &&& 6148914691236517205#64)+(a0 &&& 6148914691236517205#64)) &&& 3689348814741910323#64)) >>> (4:Nat))+((((((a0 >>> (1:Nat)) &&& 6148914691236517205#64)+(a0 &&& 6148914691236517205#64)) >>> (2:Nat)) &&& 3689348814741910323#64)+((((a0 >>> (1:Nat)) &&& 6148914691236517205#64)+(a0 &&& 6148914691236517205#64)) &&& 3689348814741910323#64))) &&& 1085102592571150095#64)+((((((((((a0 >>> (1:Nat)) &&& 6148914691236517205#64)+(a0 &&& 6148914691236517205#64)) >>> (2:Nat)) &&& 3689348814741910323#64)+((((a0 >>> (1:Nat)) &&& 6148914691236517205#64)+(a0 &&& 6148914691236517205#64)) &&& 3689348814741910323#64)) >>> (4:Nat))+((((((a0 >>> (1:Nat)) &&& 6148914691236517205#64)+(a0 &&& 6148914691236517205#64)) >>> (2:Nat)) &&& 3689348814741910323#64)+((((a0 >>> (1:Nat)) &&& 6148914691236517205#64)+(a0 &&& 6148914691236517205#64)) &&& 3689348814741910323#64))) &&& 1085102592571150095#64) >>> (8:Nat)))+(((((((((((a0 >>> (1:Nat)) &&& 6148914691236517205#64)+(a0 &&& 6148914691236517205#64)) >>> (2:Nat)) &&& 3689348814741910323#64)+((((a0 >>> (1:Nat)) &&& 6148914691236517205#64)+(a0 &&& 6148914691236517205#64)) &&& 3689348814741910323#64)) >>> (4:Nat))+((((((a0 >>> (1:Nat)) &&& 6148914691236517205#64)+(a0 &&& 6148914691236517205#64)) >>> (2:Nat)) &&& 3689348814741910323#64)+((((a0 >>> (1:Nat)) &&& 6148914691236517205#64)+(a0 &&& 6148914691236517205#64)) &&& 3689348814741910323#64))) &&& 1085102592571150095#64)+((((((((((a0 >>> (1:Nat)) &&& 6148914691236517205#64)+(a0 &&& 6148914691236517205#64)) >>> (2:Nat)) &&& 3689348814741910323#64)+((((a0 >>> (1:Nat)) &&& 6148914691236517205#64)+(a0 &&& 6148914691236517205#64)) &&& 3689348814741910323#64)) >>> (4:Nat))+((((((a0 >>> (1:Nat)) &&& 6148914691236517205#64)+(a0 &&& 6148914691236517205#64)) >>> (2:Nat)) &&& 3689348814741910323#64)+((((a0 >>> (1:Nat)) &&& 6148914691236517205#64)+(a0 &&& 6148914691236517205#64)) &&& 3689348814741910323#64))) &&& 1085102592571150095#64) >>> (8:Nat))) >>> (16:Nat))) >>> (32:Nat))).toInt) 127
def Ptb_commute (a0_N:Int)(a0_X a0_Z:BitVec 64)(a0_Phase a1_N:Int)(a1_X a1_Z:BitVec 64)(a1_Phase:Int):Bool:=
  decide (((IntKind.i64.wrap (((Pbits_OnesCount64 (a0_X &&& a1_Z)))+((Pbits_OnesCount64 (a0_Z &&& a1_X))))).tmod 2)=0)
def Ptb_CheckL2 (v0 v1 v2 v3 v5:Int)(v6 v7:List Pl):Nat→Int→Option (Unit⊕(Unit))
  |0,_=>none
  |f+1,v4=>
   if v4<v3 then match idx v6 v0 with
   |none=>none
   |some x1=>(match idx v6 v4 with
   |none=>none
   |some x2=>(bif (Ptb_commute x1.N x1.X x1.Z x1.Ph x2.N x2.X x2.Z x2.Ph) then (match idx v7 v0 with
   |none=>none
   |some x3=>(match idx v7 v4 with
   |none=>none
   |some x4=>(bif (Ptb_commute x3.N x3.X x3.Z x3.Ph x4.N x4.X x4.Z x4.Ph) then (if v0=v4 then bif (Ptb_commute x3.N x3.X x3.Z x3.Ph x2.N x2.X x2.Z x2.Ph) then some (.inl ())
   else Ptb_CheckL2 v0 v1 v2 v3 v5 v6 v7 f (IntKind.i64.wrap (v4+1))
   else bif (Ptb_commute x3.N x3.X x3.Z x3.Ph x2.N x2.X x2.Z x2.Ph) then Ptb_CheckL2 v0 v1 v2 v3 v5 v6 v7 f (IntKind.i64.wrap (v4+1))
   else some (.inl ()))
   else some (.inl ()))))
   else some (.inl ())))
   else some (.inr ())
def Ptb_CheckL3 (F:Nat)(v0 v2:Int)(v3 v4:List Pl):Nat→Int→Option (Unit⊕(Unit))
  |0,_=>none
  |f+1,v1=>
   if v1<v0 then match Ptb_CheckL2 v1 v0 v1 v2 v2 v3 v4 F 0 with
   |none=>none
   |some (.inl _)=>some (.inl ())
   |some (.inr _)=>Ptb_CheckL3 F v0 v2 v3 v4 f (IntKind.i64.wrap (v1+1))
   else some (.inr ())
def Ptb_Check (F:Nat)(a0_N:Int)(a0_Stab a0_Destab:List Pl):Option Int:=
  if a0_N<0 then some 140
  else if a0_N>64 then some 140
   else if (a0_Stab.length:Int)=a0_N then if (a0_Destab.length:Int)=a0_N then match Ptb_CheckL1 F a0_N a0_N a0_Stab a0_Destab F 0 with
   |none=>none
   |some (.inl _)=>some 140
   |some (.inr _)=>(match Ptb_CheckL3 F a0_N a0_N a0_Stab a0_Destab F 0 with
   |none=>none
   |some (.inl _)=>some 140
   |some (.inr _)=>some 0)
   else some 140
   else some 140
def Pgate_table  : ByteArray×Int×Int×Int×ByteArray×Int×Int×Int×ByteArray×Int×Int×Int×ByteArray×Int×Int×Int×ByteArray×Int×Int×Int×ByteArray×Int×Int×Int×ByteArray×Int×Int×Int×ByteArray×Int×Int×Int×ByteArray×Int×Int×Int×ByteArray×Int×Int×Int×ByteArray×Int×Int×Int×ByteArray×Int×Int×Int×ByteArray×Int×Int×Int×ByteArray×Int×Int×Int×ByteArray×Int×Int×Int×ByteArray×Int×Int×Int×ByteArray×Int×Int×Int×ByteArray×Int×Int×Int×ByteArray×Int×Int×Int×ByteArray×Int×Int×Int×ByteArray×Int×Int×Int:=
  ((⟨#[]⟩:ByteArray),0,0,0,(⟨#[105,100]⟩:ByteArray),1,0,1,(⟨#[120]⟩:ByteArray),1,0,2,(⟨#[121]⟩:ByteArray),1,0,3,(⟨#[122]⟩:ByteArray),1,0,4,(⟨#[115]⟩:ByteArray),1,0,6,(⟨#[115,100,103]⟩:ByteArray),1,0,5,(⟨#[115,120]⟩:ByteArray),1,0,8,(⟨#[115,120,100,103]⟩:ByteArray),1,0,7,(⟨#[115,121]⟩:ByteArray),1,0,10,(⟨#[115,121,100,103]⟩:ByteArray),1,0,9,(⟨#[99,120]⟩:ByteArray),2,1,11,(⟨#[99,121]⟩:ByteArray),2,1,12,(⟨#[99,122]⟩:ByteArray),2,0,13,(⟨#[115,119,97,112]⟩:ByteArray),2,0,14,(⟨#[105,115,119,97,112]⟩:ByteArray),2,0,16,(⟨#[105,115,119,97,112,100,103]⟩:ByteArray),2,0,15,(⟨#[104,104]⟩:ByteArray),2,0,17,(⟨#[99,99,120]⟩:ByteArray),3,2,18,(⟨#[99,99,122]⟩:ByteArray),3,0,19,(⟨#[99,115,119,97,112]⟩:ByteArray),3,1,20)
def Pgate_of (a0:Int):Option (ByteArray×Int×Int×Int):=
  if a0<1 then some ((⟨#[]⟩:ByteArray),0,0,0)
  else if a0>20 then some ((⟨#[]⟩:ByteArray),0,0,0)
   else match Pgate_table with
   |(r1,r2,r3,r4,r5,r6,r7,r8,r9,r10,r11,r12,r13,r14,r15,r16,r17,r18,r19,r20,r21,r22,r23,r24,r25,r26,r27,r28,r29,r30,r31,r32,r33,r34,r35,r36,r37,r38,r39,r40,r41,r42,r43,r44,r45,r46,r47,r48,r49,r50,r51,r52,r53,r54,r55,r56,r57,r58,r59,r60,r61,r62,r63,r64,r65,r66,r67,r68,r69,r70,r71,r72,r73,r74,r75,r76,r77,r78,r79,r80,r81,r82,r83,r84)=>(if a0=0 then some (r1,r2,r3,r4)
   else if a0=1 then some (r5,r6,r7,r8)
   else if a0=2 then some (r9,r10,r11,r12)
   else if a0=3 then some (r13,r14,r15,r16)
   else if a0=4 then some (r17,r18,r19,r20)
   else if a0=5 then some (r21,r22,r23,r24)
   else if a0=6 then some (r25,r26,r27,r28)
   else if a0=7 then some (r29,r30,r31,r32)
   else if a0=8 then some (r33,r34,r35,r36)
   else if a0=9 then some (r37,r38,r39,r40)
   else if a0=10 then some (r41,r42,r43,r44)
   else if a0=11 then some (r45,r46,r47,r48)
   else if a0=12 then some (r49,r50,r51,r52)
   else if a0=13 then some (r53,r54,r55,r56)
   else if a0=14 then some (r57,r58,r59,r60)
   else if a0=15 then some (r61,r62,r63,r64)
   else if a0=16 then some (r65,r66,r67,r68)
   else if a0=17 then some (r69,r70,r71,r72)
   else if a0=18 then some (r73,r74,r75,r76)
   else if a0=19 then some (r77,r78,r79,r80)
   else if a0=20 then some (r81,r82,r83,r84)
   else none)
def Pgate_Arity (a0:Int):Option Int:=
  match Pgate_of a0 with|none=>none|some (r1,r2,r3,r4)=>some r2
def Pslices_Index_intL0 (v0:List Int)(v1 v2:Int):Nat→Int→Option (Int⊕(Unit))
  |0,_=>none
  |f+1,v3=>
   if v3<v2 then match idx v0 v3 with
   |none=>none
   |some x1=>(if v1=x1 then some (.inl v3)
   else Pslices_Index_intL0 v0 v1 v2 f (IntKind.i64.wrap (v3+1)))
   else some (.inr ())
def Pslices_Index_int (F:Nat)(a0:List Int)(a1:Int):Option Int:=
  match Pslices_Index_intL0 a0 a1 (a0.length:Int) F 0 with
  |none=>none
  |some (.inl y1)=>some y1
  |some (.inr _)=>some ((-1):Int)
def Pslices_Contains_int (F:Nat)(a0:List Int)(a1:Int):Option Bool:=
  match Pslices_Index_int F a0 a1 with|none=>none|some r1=>some (decide (r1≥0))
def Pgate_CheckL0 (F:Nat)(v0:List Int)(v1:Int)(v2:List Int)(v3:Int):Nat→Int→Option (Unit⊕(Unit))
  |0,_=>none
  |f+1,v4=>
   if v4<v3 then match idx v2 v4 with
   |none=>none
   |some x1=>(if x1<0 then some (.inl ())
   else if x1≥v1 then some (.inl ())
   else if 0≤v4∧v4≤(v0.length:Int) then match Pslices_Contains_int F (v0.take v4.toNat) x1 with|none=>none|some r2=>(bif r2 then some (.inl ())
   else Pgate_CheckL0 F v0 v1 v2 v3 f (IntKind.i64.wrap (v4+1)))
   else none)
   else some (.inr ())
def Pgate_Check (F:Nat)(a0:Int)(a1:List Int)(a2:Int):Option Int:=
  match Pgate_Arity a0 with|none=>none|some r1=>(if r1=0 then some 60
   else if (a1.length:Int)=r1 then match Pgate_CheckL0 F a1 a2 a1 (a1.length:Int) F 0 with
   |none=>none
   |some (.inl _)=>some 61
   |some (.inr _)=>some 0
   else some 61)
def Pgate_Clifford (a0:Int):Bool:=
  if a0≥1 then decide (a0≤17)
  else false
def Ptb_copied (a0_N:Int)(a0_Stab a0_Destab:List Pl):Option (Int×(List Pl)×(List Pl)):=
  if a0_Stab.length*32≤140737488355328 then if a0_Stab=[] then if a0_Destab.length*32≤140737488355328 then if a0_Destab=[] then some (a0_N,[],[])
   else some (a0_N,[],a0_Destab)
   else none
   else if a0_Destab.length*32≤140737488355328 then if a0_Destab=[] then some (a0_N,a0_Stab,[])
   else some (a0_N,a0_Stab,a0_Destab)
   else none
  else none
def Ppauli_ThroughL0 (v0:Int)(v1 v2:List Int)(v3 v5:Int)(v6 v7:BitVec 64)(v8 v9:Int)(v10 v11:BitVec 64)(v12 v13 v16:Int):Nat→Int→BitVec 64→BitVec 64→Option ((BitVec 64)×(BitVec 64))
  |0,_,_,_=>none
  |f+1,v4,v14,v15=>
   if v4<v3 then match idx v2 v4 with
   |none=>none
   |some x1=>(if x1<0 then none
   else Ppauli_ThroughL0 v0 v1 v2 v3 v5 v6 v7 v8 v9 v10 v11 v12 v13 v16 f (IntKind.i64.wrap (v4+1)) (v14 &&& ~~~(1#64 <<< x1.toNat)) (v15 &&& ~~~(1#64 <<< x1.toNat)))
   else some (v14,v15)
def Ppauli_images (a0:Int):Option (List ByteArray):=
  if a0=0 then some ([])
  else if a0=1 then some ([((⟨#[43,88]⟩:ByteArray)),((⟨#[43,90]⟩:ByteArray))])
   else if a0=2 then some ([((⟨#[43,88]⟩:ByteArray)),((⟨#[45,90]⟩:ByteArray))])
   else if a0=3 then some ([((⟨#[45,88]⟩:ByteArray)),((⟨#[45,90]⟩:ByteArray))])
   else if a0=4 then some ([((⟨#[45,88]⟩:ByteArray)),((⟨#[43,90]⟩:ByteArray))])
   else if a0=5 then some ([((⟨#[43,89]⟩:ByteArray)),((⟨#[43,90]⟩:ByteArray))])
   else if a0=6 then some ([((⟨#[45,89]⟩:ByteArray)),((⟨#[43,90]⟩:ByteArray))])
   else if a0=7 then some ([((⟨#[43,88]⟩:ByteArray)),((⟨#[45,89]⟩:ByteArray))])
   else if a0=8 then some ([((⟨#[43,88]⟩:ByteArray)),((⟨#[43,89]⟩:ByteArray))])
   else if a0=9 then some ([((⟨#[45,90]⟩:ByteArray)),((⟨#[43,88]⟩:ByteArray))])
   else if a0=10 then some ([((⟨#[43,90]⟩:ByteArray)),((⟨#[45,88]⟩:ByteArray))])
   else if a0=11 then some ([((⟨#[43,88,88]⟩:ByteArray)),((⟨#[43,90,73]⟩:ByteArray)),((⟨#[43,73,88]⟩:ByteArray)),((⟨#[43,90,90]⟩:ByteArray))])
   else if a0=12 then some ([((⟨#[43,88,89]⟩:ByteArray)),((⟨#[43,90,73]⟩:ByteArray)),((⟨#[43,90,88]⟩:ByteArray)),((⟨#[43,90,90]⟩:ByteArray))])
   else if a0=13 then some ([((⟨#[43,88,90]⟩:ByteArray)),((⟨#[43,90,73]⟩:ByteArray)),((⟨#[43,90,88]⟩:ByteArray)),((⟨#[43,73,90]⟩:ByteArray))])
   else if a0=14 then some ([((⟨#[43,73,88]⟩:ByteArray)),((⟨#[43,73,90]⟩:ByteArray)),((⟨#[43,88,73]⟩:ByteArray)),((⟨#[43,90,73]⟩:ByteArray))])
   else if a0=15 then some ([((⟨#[43,90,89]⟩:ByteArray)),((⟨#[43,73,90]⟩:ByteArray)),((⟨#[43,89,90]⟩:ByteArray)),((⟨#[43,90,73]⟩:ByteArray))])
   else if a0=16 then some ([((⟨#[45,90,89]⟩:ByteArray)),((⟨#[43,73,90]⟩:ByteArray)),((⟨#[45,89,90]⟩:ByteArray)),((⟨#[43,90,73]⟩:ByteArray))])
   else if a0=17 then some ([((⟨#[43,90,73]⟩:ByteArray)),((⟨#[43,88,73]⟩:ByteArray)),((⟨#[43,73,90]⟩:ByteArray)),((⟨#[43,73,88]⟩:ByteArray))])
   else none
def Ppauli_code (a0_N:Int)(a0_X a0_Z:BitVec 64)(a0_Phase a1:Int):Option Int:=
  if a1<0 then none
  else some (bitop .xor .i64 (((a0_X >>> a1.toNat) &&& 1#64).toInt) (IntKind.i64.wrap (3*(((a0_Z >>> a1.toNat) &&& 1#64).toInt))))
def Pstrings_IndexByte (a0:ByteArray)(a1:Int):Int:=
  (Lib.indexByte a0.data.toList a1.toNat.toUInt8:Int)
def Ppauli_spreadL0 (v0:ByteArray)(v1:List Int)(v2 v4:Int)(v5 v6:BitVec 64)(v7 v8 v11:Int):Nat→Int→BitVec 64→BitVec 64→Option ((BitVec 64)×(BitVec 64))
  |0,_,_,_=>none
  |f+1,v3,v9,v10=>
   if v3<v2 then match idx v1 v3 with
   |none=>none
   |some x1=>(match bidx v0 (IntKind.i64.wrap (v3+1)) with
   |none=>none
   |some x2=>(if ((Pstrings_IndexByte (⟨#[73,88,89,90]⟩:ByteArray) x2))=1 then if x1<0 then none
   else if ((Pstrings_IndexByte (⟨#[73,88,89,90]⟩:ByteArray) x2))≥2 then Ppauli_spreadL0 v0 v1 v2 v4 v5 v6 v7 v8 v11 f (IntKind.i64.wrap (v3+1)) (v9 ||| (1#64 <<< x1.toNat)) (v10 ||| (1#64 <<< x1.toNat))
   else Ppauli_spreadL0 v0 v1 v2 v4 v5 v6 v7 v8 v11 f (IntKind.i64.wrap (v3+1)) (v9 ||| (1#64 <<< x1.toNat)) v10
   else if ((Pstrings_IndexByte (⟨#[73,88,89,90]⟩:ByteArray) x2))=2 then if x1<0 then none
   else if ((Pstrings_IndexByte (⟨#[73,88,89,90]⟩:ByteArray) x2))≥2 then Ppauli_spreadL0 v0 v1 v2 v4 v5 v6 v7 v8 v11 f (IntKind.i64.wrap (v3+1)) (v9 ||| (1#64 <<< x1.toNat)) (v10 ||| (1#64 <<< x1.toNat))
   else Ppauli_spreadL0 v0 v1 v2 v4 v5 v6 v7 v8 v11 f (IntKind.i64.wrap (v3+1)) (v9 ||| (1#64 <<< x1.toNat)) v10
   else if ((Pstrings_IndexByte (⟨#[73,88,89,90]⟩:ByteArray) x2))≥2 then if x1<0 then none
   else Ppauli_spreadL0 v0 v1 v2 v4 v5 v6 v7 v8 v11 f (IntKind.i64.wrap (v3+1)) v9 (v10 ||| (1#64 <<< x1.toNat))
   else Ppauli_spreadL0 v0 v1 v2 v4 v5 v6 v7 v8 v11 f (IntKind.i64.wrap (v3+1)) v9 v10))
   else some (v9,v10)
def Ppauli_spread (F:Nat)(a0:ByteArray)(a1:Int)(a2:List Int):Option (Int×(BitVec 64)×(BitVec 64)×Int):=
  match bidx a0 0 with
  |none=>none
  |some x1=>(if x1=45 then match Ppauli_spreadL0 a0 a2 (a2.length:Int) 0 0#64 0#64 0 a1 2 F 0 0#64 0#64 with
   |none=>none
   |some (y2,y3)=>some (a1,y2,y3,2)
   else match Ppauli_spreadL0 a0 a2 (a2.length:Int) 0 0#64 0#64 0 a1 0 F 0 0#64 0#64 with
   |none=>none
   |some (y4,y5)=>some (a1,y4,y5,0))
def Pbits_TrailingZeros64 (a0:BitVec 64):Option Int:=
  if a0=0#64 then some 64
  else match idx zs64 (U (((a0 &&& (-a0))*285870213051353865#64) >>> (58:Nat))) with
   |none=>none
   |some x1=>some (IntKind.i64.wrap (x1))
def Ppauli_timesL0 (v2:Int)(v3 v4:BitVec 64)(v5 v6:Int)(v7 v8:BitVec 64)(v9 v10:Int)(v11 v12:BitVec 64)(v13:Int):Nat→Int→BitVec 64→Option Int
  |0,_,_=>none
  |f+1,v0,v1=>
   if v1=0#64 then some (v0)
   else match Pbits_TrailingZeros64 v1 with|none=>none|some r1=>(match Ppauli_code v6 v7 v8 v9 r1 with|none=>none|some r2=>(match Ppauli_code v2 v3 v4 v5 r1 with|none=>none|some r3=>(if ((IntKind.i64.wrap ((IntKind.i64.wrap (r2-r3))+3)).tmod 3)=1 then Ppauli_timesL0 v2 v3 v4 v5 v6 v7 v8 v9 v10 v11 v12 v13 f (IntKind.i64.wrap (v0+1)) (v1 &&& (v1-1#64))
   else if ((IntKind.i64.wrap ((IntKind.i64.wrap (r2-r3))+3)).tmod 3)=2 then Ppauli_timesL0 v2 v3 v4 v5 v6 v7 v8 v9 v10 v11 v12 v13 f (IntKind.i64.wrap (v0+3)) (v1 &&& (v1-1#64))
   else Ppauli_timesL0 v2 v3 v4 v5 v6 v7 v8 v9 v10 v11 v12 v13 f v0 (v1 &&& (v1-1#64)))))
def Ppauli_times (F:Nat)(a0_N:Int)(a0_X a0_Z:BitVec 64)(a0_Phase a1_N:Int)(a1_X a1_Z:BitVec 64)(a1_Phase:Int):Option (Int×(BitVec 64)×(BitVec 64)×Int):=
  match Ppauli_timesL0 a0_N a0_X a0_Z a0_Phase a1_N a1_X a1_Z a1_Phase 0 0#64 0#64 0 F (IntKind.i64.wrap (a0_Phase+a1_Phase)) ((a0_X ||| a0_Z) &&& (a1_X ||| a1_Z)) with
  |none=>none
  |some y1=>some (a0_N,a0_X ^^^ a1_X,a0_Z ^^^ a1_Z,y1.tmod 4)
def Ppauli_ThroughL1 (F:Nat)(v0:List Int)(v1:List ByteArray)(v2:List Int)(v3 v5:Int)(v6 v7:BitVec 64)(v8 v9:Int)(v10 v11:BitVec 64)(v12:Int):Nat→Int→Int→BitVec 64→BitVec 64→Int→Option (Int×(BitVec 64)×(BitVec 64)×Int)
  |0,_,_,_,_,_=>none
  |f+1,v4,v13,v14,v15,v16=>
   if v4<v3 then match idx v2 v4 with
   |none=>none
   |some x1=>(match Ppauli_code v5 v6 v7 v8 x1 with|none=>none|some r2=>(if r2=2 then if r2=1 then match idx v1 (IntKind.i64.wrap (2*v4)) with
   |none=>none
   |some x3=>(match Ppauli_spread F x3 v5 v0 with|none=>none|some (r4,r5,r6,r7)=>(match Ppauli_times F v13 v14 v15 ((IntKind.i64.wrap (v16+1)).tmod 4) r4 r5 r6 r7 with|none=>none|some (r8,r9,r10,r11)=>(if r2≥2 then match idx v1 (IntKind.i64.wrap ((IntKind.i64.wrap (2*v4))+1)) with
   |none=>none
   |some x12=>(match Ppauli_spread F x12 v5 v0 with|none=>none|some (r13,r14,r15,r16)=>(match Ppauli_times F r8 r9 r10 r11 r13 r14 r15 r16 with|none=>none|some (r17,r18,r19,r20)=>Ppauli_ThroughL1 F v0 v1 v2 v3 v5 v6 v7 v8 v9 v10 v11 v12 f (IntKind.i64.wrap (v4+1)) r17 r18 r19 r20))
   else Ppauli_ThroughL1 F v0 v1 v2 v3 v5 v6 v7 v8 v9 v10 v11 v12 f (IntKind.i64.wrap (v4+1)) r8 r9 r10 r11)))
   else match idx v1 (IntKind.i64.wrap (2*v4)) with
   |none=>none
   |some x21=>(match Ppauli_spread F x21 v5 v0 with|none=>none|some (r22,r23,r24,r25)=>(match Ppauli_times F v13 v14 v15 ((IntKind.i64.wrap (v16+1)).tmod 4) r22 r23 r24 r25 with|none=>none|some (r26,r27,r28,r29)=>(if r2≥2 then match idx v1 (IntKind.i64.wrap ((IntKind.i64.wrap (2*v4))+1)) with
   |none=>none
   |some x30=>(match Ppauli_spread F x30 v5 v0 with|none=>none|some (r31,r32,r33,r34)=>(match Ppauli_times F r26 r27 r28 r29 r31 r32 r33 r34 with|none=>none|some (r35,r36,r37,r38)=>Ppauli_ThroughL1 F v0 v1 v2 v3 v5 v6 v7 v8 v9 v10 v11 v12 f (IntKind.i64.wrap (v4+1)) r35 r36 r37 r38))
   else Ppauli_ThroughL1 F v0 v1 v2 v3 v5 v6 v7 v8 v9 v10 v11 v12 f (IntKind.i64.wrap (v4+1)) r26 r27 r28 r29)))
   else if r2=1 then match idx v1 (IntKind.i64.wrap (2*v4)) with
   |none=>none
   |some x39=>(match Ppauli_spread F x39 v5 v0 with|none=>none|some (r40,r41,r42,r43)=>(match Ppauli_times F v13 v14 v15 v16 r40 r41 r42 r43 with|none=>none|some (r44,r45,r46,r47)=>(if r2≥2 then match idx v1 (IntKind.i64.wrap ((IntKind.i64.wrap (2*v4))+1)) with
   |none=>none
   |some x48=>(match Ppauli_spread F x48 v5 v0 with|none=>none|some (r49,r50,r51,r52)=>(match Ppauli_times F r44 r45 r46 r47 r49 r50 r51 r52 with|none=>none|some (r53,r54,r55,r56)=>Ppauli_ThroughL1 F v0 v1 v2 v3 v5 v6 v7 v8 v9 v10 v11 v12 f (IntKind.i64.wrap (v4+1)) r53 r54 r55 r56))
   else Ppauli_ThroughL1 F v0 v1 v2 v3 v5 v6 v7 v8 v9 v10 v11 v12 f (IntKind.i64.wrap (v4+1)) r44 r45 r46 r47)))
   else if r2≥2 then match idx v1 (IntKind.i64.wrap ((IntKind.i64.wrap (2*v4))+1)) with
   |none=>none
   |some x57=>(match Ppauli_spread F x57 v5 v0 with|none=>none|some (r58,r59,r60,r61)=>(match Ppauli_times F v13 v14 v15 v16 r58 r59 r60 r61 with|none=>none|some (r62,r63,r64,r65)=>Ppauli_ThroughL1 F v0 v1 v2 v3 v5 v6 v7 v8 v9 v10 v11 v12 f (IntKind.i64.wrap (v4+1)) r62 r63 r64 r65))
   else Ppauli_ThroughL1 F v0 v1 v2 v3 v5 v6 v7 v8 v9 v10 v11 v12 f (IntKind.i64.wrap (v4+1)) v13 v14 v15 v16))
   else some (v13,v14,v15,v16)
def Ppauli_Through (F:Nat)(a0_N:Int)(a0_X a0_Z:BitVec 64)(a0_Phase a1:Int)(a2:List Int):Option (Int×(BitVec 64)×(BitVec 64)×Int×Int):=
  bif (Ppauli_right a0_N a0_X a0_Z a0_Phase) then (bif (Pgate_Clifford a1) then (match Pgate_Check F a1 a2 a0_N with|none=>none|some r1=>(if r1=0 then match Ppauli_ThroughL0 a1 a2 a2 (a2.length:Int) a0_N a0_X a0_Z a0_Phase 0 0#64 0#64 0 a0_N a0_Phase F 0 a0_X a0_Z with
   |none=>none
   |some (y2,y3)=>(match Ppauli_images a1 with|none=>none|some r4=>(match Ppauli_ThroughL1 F a2 r4 a2 (a2.length:Int) a0_N a0_X a0_Z a0_Phase 0 0#64 0#64 0 F 0 a0_N y2 y3 a0_Phase with
   |none=>none
   |some (y5,y6,y7,y8)=>some (y5,y6,y7,y8,0)))
   else some (0,0#64,0#64,0,130)))
   else some (0,0#64,0#64,0,130))
  else some (0,0#64,0#64,0,130)
def Ptb_GateL0 (F:Nat)(v0 v1:List Pl)(v2 v3 v4:Int)(v5:List Int):Nat→Option Unit
  |0=>none
  |f+1=>
   if v3<v2 then match idx v1 v3 with
   |none=>none
   |some x1=>(match Ppauli_Through F x1.N x1.X x1.Z x1.Ph v4 v5 with|none=>none|some (r2,r3,r4,r5,r6)=>(match idx v0 v3 with
   |none=>none
   |some x7=>none))
   else some ()
def Ptb_GateL1 (F:Nat)(v0 v1:List Pl)(v2 v3:Int)(v4:List Pl)(v5:Int)(v6:List Int):Nat→Option Unit
  |0=>none
  |f+1=>
   if v3<v2 then match idx v1 v3 with
   |none=>none
   |some x1=>(match Ppauli_Through F x1.N x1.X x1.Z x1.Ph v5 v6 with|none=>none|some (r2,r3,r4,r5,r6)=>(match idx v0 v3 with
   |none=>none
   |some x7=>none))
   else some ()
def Ptb_GateL2 (F:Nat)(v0 v3:Int)(v4:List Int):Nat→Int→List Pl→Option (List Pl)
  |0,_,_=>none
  |f+1,v1,v2=>
   if v1<v0 then match idx v2 v1 with
   |none=>none
   |some x1=>(match Ppauli_Through F x1.N x1.X x1.Z x1.Ph v3 v4 with|none=>none|some (r2,r3,r4,r5,r6)=>Ptb_GateL2 F v0 v3 v4 f (IntKind.i64.wrap (v1+1)) ((v2).set v1.toNat (⟨r2,r3,r4,r5⟩:Pl)))
   else some (v2)
theorem ltb_GateL2n0_0 (F:Nat)(v0 v3:Int)(v4:List Int):∀ (f:Nat) (v1:Int) (v2 y0:List Pl),Ptb_GateL2 F v0 v3 v4 f v1 v2=some (y0)→y0.length=v2.length:=by
 intro f
 induction f with
 |zero=>intro v1 v2 y0 h;simp only [Ptb_GateL2] at h;cases h
 |succ f ih=>
 intro v1 v2 y0 h
 simp only [Ptb_GateL2,Bool.cond_eq_ite] at h
 (repeat' split at h)<;>first
 |(cases h;done)
 |(cases h;simp only [List.length_set];done)
 |(cases h;rfl)
 |(have q:=ih _ _ _ h;simpa only [List.length_set] using q)
 |(have q:=ih _ _ _ h;(try simp only [List.length_set] at *);omega)
 |(cases h;(try simp only [List.length_set] at *);omega)
def Ptb_GateL3 (F:Nat)(v0:Int)(v3:List Pl)(v4:Int)(v5:List Int):Nat→Int→List Pl→Option (List Pl)
  |0,_,_=>none
  |f+1,v1,v2=>
   if v1<v0 then match idx v2 v1 with
   |none=>none
   |some x1=>(match Ppauli_Through F x1.N x1.X x1.Z x1.Ph v4 v5 with|none=>none|some (r2,r3,r4,r5,r6)=>Ptb_GateL3 F v0 v3 v4 v5 f (IntKind.i64.wrap (v1+1)) ((v2).set v1.toNat (⟨r2,r3,r4,r5⟩:Pl)))
   else some (v2)
theorem ltb_GateL3n0_0 (F:Nat)(v0:Int)(v3:List Pl)(v4:Int)(v5:List Int):∀ (f:Nat) (v1:Int) (v2 y0:List Pl),Ptb_GateL3 F v0 v3 v4 v5 f v1 v2=some (y0)→y0.length=v2.length:=by
 intro f
 induction f with
 |zero=>intro v1 v2 y0 h;simp only [Ptb_GateL3] at h;cases h
 |succ f ih=>
 intro v1 v2 y0 h
 simp only [Ptb_GateL3,Bool.cond_eq_ite] at h
 (repeat' split at h)<;>first
 |(cases h;done)
 |(cases h;simp only [List.length_set];done)
 |(cases h;rfl)
 |(have q:=ih _ _ _ h;simpa only [List.length_set] using q)
 |(have q:=ih _ _ _ h;(try simp only [List.length_set] at *);omega)
 |(cases h;(try simp only [List.length_set] at *);omega)
def Ptb_GateL4 (F:Nat)(v0:Int)(v2:List Pl)(v4:Int)(v5:List Int):Nat→Int→List Pl→Option (List Pl)
  |0,_,_=>none
  |f+1,v1,v3=>
   if v1<v0 then match idx v3 v1 with
   |none=>none
   |some x1=>(match Ppauli_Through F x1.N x1.X x1.Z x1.Ph v4 v5 with|none=>none|some (r2,r3,r4,r5,r6)=>Ptb_GateL4 F v0 v2 v4 v5 f (IntKind.i64.wrap (v1+1)) ((v3).set v1.toNat (⟨r2,r3,r4,r5⟩:Pl)))
   else some (v3)
theorem ltb_GateL4n0_0 (F:Nat)(v0:Int)(v2:List Pl)(v4:Int)(v5:List Int):∀ (f:Nat) (v1:Int) (v3 y0:List Pl),Ptb_GateL4 F v0 v2 v4 v5 f v1 v3=some (y0)→y0.length=v3.length:=by
 intro f
 induction f with
 |zero=>intro v1 v3 y0 h;simp only [Ptb_GateL4] at h;cases h
 |succ f ih=>
 intro v1 v3 y0 h
 simp only [Ptb_GateL4,Bool.cond_eq_ite] at h
 (repeat' split at h)<;>first
 |(cases h;done)
 |(cases h;simp only [List.length_set];done)
 |(cases h;rfl)
 |(have q:=ih _ _ _ h;simpa only [List.length_set] using q)
 |(have q:=ih _ _ _ h;(try simp only [List.length_set] at *);omega)
 |(cases h;(try simp only [List.length_set] at *);omega)
def Ptb_Gate (F:Nat)(a0_N:Int)(a0_Stab a0_Destab:List Pl)(a1:Int)(a2:List Int):Option (Int×(List Pl)×(List Pl)×Int):=
  match Ptb_Check F a0_N a0_Stab a0_Destab with|none=>none|some r1=>(if r1=0 then match Pgate_Check F a1 a2 a0_N with|none=>none|some r2=>(if r2=0 then bif (Pgate_Clifford a1) then (match Ptb_copied a0_N a0_Stab a0_Destab with|none=>none|some (r3,r4,r5)=>(if r4=[] then if r5=[] then match Ptb_GateL0 F ([]) ([]) 0 0 a1 a2 F with|none=>none|some _=>some (r3,[],[],0)
   else match Ptb_GateL1 F ([]) ([]) 0 0 r5 a1 a2 F with|none=>none|some _=>(match Ptb_GateL2 F ((r5.length:Nat):Int) a1 a2 F 0 r5 with
   |none=>none
   |some y6=>some (r3,[],y6,0))
   else if r5=[] then match Ptb_GateL2 F ((r4.length:Nat):Int) a1 a2 F 0 r4 with
   |none=>none
   |some y7=>(match Ptb_GateL1 F ([]) ([]) 0 0 y7 a1 a2 F with|none=>none|some _=>some (r3,y7,[],0))
   else match Ptb_GateL3 F ((r4.length:Nat):Int) r5 a1 a2 F 0 r4 with
   |none=>none
   |some y8=>(match Ptb_GateL4 F ((r5.length:Nat):Int) y8 a1 a2 F 0 r5 with
   |none=>none
   |some y9=>some (r3,y8,y9,0))))
   else some (0,[],[],141)
   else some (0,[],[],r2))
   else some (0,[],[],r1))
def Plaw14_num (a0:Int):Int:=
  a0
def Pgate_Inverse (a0:Int):Option Int:=
  match Pgate_of a0 with|none=>none|some (r1,r2,r3,r4)=>some r4
def Ptb_unlikeL0 (F:Nat)(v0:List Int)(v1:Int)(v2:List Int)(v3:Int):Nat→Int→Option (Unit⊕(Unit))
  |0,_=>none
  |f+1,v4=>
   if v4<v3 then match idx v2 v4 with
   |none=>none
   |some x1=>(if x1<0 then some (.inl ())
   else if x1≥v1 then some (.inl ())
   else if 0≤v4∧v4≤(v0.length:Int) then match Pslices_Contains_int F (v0.take v4.toNat) x1 with|none=>none|some r2=>(bif r2 then some (.inl ())
   else Ptb_unlikeL0 F v0 v1 v2 v3 f (IntKind.i64.wrap (v4+1)))
   else none)
   else some (.inr ())
def Ptb_unlike (F:Nat)(a0:List Int)(a1:Int):Option Bool:=
  match Ptb_unlikeL0 F a0 a1 a0 (a0.length:Int) F 0 with
  |none=>none
  |some (.inl _)=>some false
  |some (.inr _)=>some true
def Ptb_CutL0 (v0 v2:List Int)(v3 v5:Int)(v6 v7:List Pl):Nat→BitVec 64→Int→Option (BitVec 64)
  |0,_,_=>none
  |f+1,v1,v4=>
   if v4<v3 then match idx v2 v4 with
   |none=>none
   |some x1=>(if x1<0 then none
   else Ptb_CutL0 v0 v2 v3 v5 v6 v7 f (v1 ||| (1#64 <<< x1.toNat)) (IntKind.i64.wrap (v4+1)))
   else some (v1)
def Ptb_CutL1 (v0:List Int)(v1:BitVec 64)(v2:List Pl)(v3 v4 v5:Int)(v6 v7:List Pl):Nat→Option Unit
  |0=>none
  |f+1=>
   if v4<v3 then match idx v2 v4 with
   |none=>none
   |some x1=>none
   else some ()
def Ptb_column (a0_N:Int)(a0_X a0_Z:BitVec 64)(a0_Phase a1:Int):Option (BitVec 64):=
  if a1<a0_N then if a1<0 then none
   else some ((a0_X >>> a1.toNat) &&& 1#64)
  else if (IntKind.i64.wrap (a1-a0_N))<0 then none
   else some ((a0_Z >>> (IntKind.i64.wrap (a1-a0_N)).toNat) &&& 1#64)
def Ptb_echelonL0 (v0:List Pl)(v1 v2 v5 v6:Int):Nat→Int→Int→Option Int
  |0,_,_=>none
  |f+1,v3,v4=>
   if v4<(v0.length:Int) then if v3<0 then match idx v0 v4 with
   |none=>none
   |some x1=>(match Ptb_column x1.N x1.X x1.Z x1.Ph v2 with|none=>none|some r2=>(if r2=1#64 then Ptb_echelonL0 v0 v1 v2 v5 v6 f v4 (IntKind.i64.wrap (v4+1))
   else Ptb_echelonL0 v0 v1 v2 v5 v6 f v3 (IntKind.i64.wrap (v4+1))))
   else some (v3)
   else some (v3)
def Ptb_echelonL1 (F:Nat)(v0:List Pl)(v1 v2:Int):Nat→Int→Option Unit
  |0,_=>none
  |f+1,v3=>
   if v3<v2 then match Ptb_echelonL0 v0 v1 v3 v2 v3 F ((-1):Int) v1 with
   |none=>none
   |some y1=>(if y1<0 then Ptb_echelonL1 F v0 v1 v2 f (IntKind.i64.wrap (v3+1))
   else match idx v0 y1 with
   |none=>none
   |some x2=>(match idx v0 v1 with
   |none=>none
   |some x3=>none))
   else some ()
def Ptb_echelonL2 (v0 v1 v4 v5:Int)(v6:List Pl):Nat→Int→Int→Option Int
  |0,_,_=>none
  |f+1,v2,v3=>
   if v3<(((v6.length:Nat):Int)) then if v2<0 then match idx v6 v3 with
   |none=>none
   |some x1=>(match Ptb_column x1.N x1.X x1.Z x1.Ph v1 with|none=>none|some r2=>(if r2=1#64 then Ptb_echelonL2 v0 v1 v4 v5 v6 f v3 (IntKind.i64.wrap (v3+1))
   else Ptb_echelonL2 v0 v1 v4 v5 v6 f v2 (IntKind.i64.wrap (v3+1))))
   else some (v2)
   else some (v2)
def Ppauli_pair (a0_N:Int)(a0_X a0_Z:BitVec 64)(a0_Phase a1_N:Int)(a1_X a1_Z:BitVec 64)(a1_Phase:Int):Bool:=
  bif (Ppauli_right a0_N a0_X a0_Z a0_Phase) then (bif (Ppauli_right a1_N a1_X a1_Z a1_Phase) then decide (a0_N=a1_N)
   else false)
  else false
def Ppauli_Mul (F:Nat)(a0_N:Int)(a0_X a0_Z:BitVec 64)(a0_Phase a1_N:Int)(a1_X a1_Z:BitVec 64)(a1_Phase:Int):Option (Int×(BitVec 64)×(BitVec 64)×Int×Int):=
  bif (Ppauli_pair a0_N a0_X a0_Z a0_Phase a1_N a1_X a1_Z a1_Phase) then (match Ppauli_times F a0_N a0_X a0_Z a0_Phase a1_N a1_X a1_Z a1_Phase with|none=>none|some (r1,r2,r3,r4)=>some (r1,r2,r3,r4,0))
  else some (0,0#64,0#64,0,130)
def Ptb_mul (F:Nat)(a0_N:Int)(a0_X a0_Z:BitVec 64)(a0_Phase a1_N:Int)(a1_X a1_Z:BitVec 64)(a1_Phase:Int):Option (Int×(BitVec 64)×(BitVec 64)×Int):=
  match Ppauli_Mul F a0_N a0_X a0_Z a0_Phase a1_N a1_X a1_Z a1_Phase with|none=>none|some (r1,r2,r3,r4,r5)=>some (r1,r2,r3,r4)
def Ptb_echelonL3 (F:Nat)(v0 v1 v2 v3 v4:Int):Nat→Int→List Pl→Option (List Pl)
  |0,_,_=>none
  |f+1,v5,v6=>
   if v5<v4 then if v5=v0 then Ptb_echelonL3 F v0 v1 v2 v3 v4 f (IntKind.i64.wrap (v5+1)) v6
   else match idx v6 v5 with
   |none=>none
   |some x1=>(match Ptb_column x1.N x1.X x1.Z x1.Ph v1 with|none=>none|some r2=>(if r2=1#64 then match idx v6 v0 with
   |none=>none
   |some x3=>(match Ptb_mul F x1.N x1.X x1.Z x1.Ph x3.N x3.X x3.Z x3.Ph with|none=>none|some (r4,r5,r6,r7)=>Ptb_echelonL3 F v0 v1 v2 v3 v4 f (IntKind.i64.wrap (v5+1)) ((v6).set v5.toNat (⟨r4,r5,r6,r7⟩:Pl)))
   else Ptb_echelonL3 F v0 v1 v2 v3 v4 f (IntKind.i64.wrap (v5+1)) v6))
   else some (v6)
theorem ltb_echelonL3n0_0 (F:Nat)(v0 v1 v2 v3 v4:Int):∀ (f:Nat) (v5:Int) (v6 y0:List Pl),Ptb_echelonL3 F v0 v1 v2 v3 v4 f v5 v6=some (y0)→y0.length=v6.length:=by
 intro f
 induction f with
 |zero=>intro v5 v6 y0 h;simp only [Ptb_echelonL3] at h;cases h
 |succ f ih=>
 intro v5 v6 y0 h
 simp only [Ptb_echelonL3,Bool.cond_eq_ite] at h
 (repeat' split at h)<;>first
 |(cases h;done)
 |(cases h;simp only [List.length_set];done)
 |(cases h;rfl)
 |(have q:=ih _ _ _ h;simpa only [List.length_set] using q)
 |(have q:=ih _ _ _ h;(try simp only [List.length_set] at *);omega)
 |(cases h;(try simp only [List.length_set] at *);omega)
def Ptb_echelonL4 (F:Nat)(v1:Int):Nat→Int→Int→List Pl→Option (List Pl)
  |0,_,_,_=>none
  |f+1,v0,v2,v3=>
   if v2<v1 then match Ptb_echelonL2 v0 v2 v1 v2 v3 F ((-1):Int) v0 with
   |none=>none
   |some y1=>(if y1<0 then Ptb_echelonL4 F v1 f v0 (IntKind.i64.wrap (v2+1)) v3
   else match idx v3 y1 with
   |none=>none
   |some x2=>(match idx v3 v0 with
   |none=>none
   |some x3=>(match idx ((v3).set v0.toNat x2) y1 with
   |none=>none
   |some x4=>(match Ptb_echelonL3 F v0 v2 v1 v2 ((v3.length:Nat):Int) F 0 (((v3).set v0.toNat x2).set y1.toNat x3) with
   |none=>none
   |some y5=>Ptb_echelonL4 F v1 f (IntKind.i64.wrap (v0+1)) (IntKind.i64.wrap (v2+1)) y5))))
   else some (v3)
theorem ltb_echelonL4n0_0 (F:Nat)(v1:Int):∀ (f:Nat) (v0 v2:Int) (v3 y0:List Pl),Ptb_echelonL4 F v1 f v0 v2 v3=some (y0)→y0.length=v3.length:=by
 intro f
 induction f with
 |zero=>intro v0 v2 v3 y0 h;simp only [Ptb_echelonL4] at h;cases h
 |succ f ih=>
 intro v0 v2 v3 y0 h
 simp only [Ptb_echelonL4,Bool.cond_eq_ite] at h
 (repeat' split at h)<;>first
 |(cases h;done)
 |(cases h;simp only [List.length_set];done)
 |(cases h;rfl)
 |(have q:=ih _ _ _ _ h;simpa only [List.length_set] using q)
 |(have q:=ih _ _ _ _ h;(try have r0:=ltb_echelonL3n0_0 _ _ _ _ _ _ _ _ _ _ (by assumption));(try simp only [List.length_set] at *);omega)
 |(cases h;(try have r0:=ltb_echelonL3n0_0 _ _ _ _ _ _ _ _ _ _ (by assumption));(try simp only [List.length_set] at *);omega)
def Ptb_echelon (F:Nat)(a0:List Pl)(a1:Int):Option (List Pl):=
  if a0.length*32≤140737488355328 then if a0=[] then match Ptb_echelonL1 F ([]) 0 (IntKind.i64.wrap (2*a1)) F 0 with|none=>none|some _=>some ([])
   else match Ptb_echelonL4 F (IntKind.i64.wrap (2*a1)) F 0 0 a0 with
   |none=>none
   |some y1=>some y1
  else none
def Ptb_CutL2 (v0:List Int)(v2:List Pl)(v3:Int):Nat→Int→Int→Option Int
  |0,_,_=>none
  |f+1,v1,v4=>
   if v4<v3 then match idx v2 v4 with
   |none=>none
   |some x1=>(if (x1.X ||| x1.Z)=0#64 then Ptb_CutL2 v0 v2 v3 f v1 (IntKind.i64.wrap (v4+1))
   else Ptb_CutL2 v0 v2 v3 f (IntKind.i64.wrap (v1+1)) (IntKind.i64.wrap (v4+1)))
   else some (v1)
def Ptb_CutL3 (v0:List Int)(v1:BitVec 64)(v2 v4:Int)(v5 v6:List Pl):Nat→Int→List Pl→Option (List Pl)
  |0,_,_=>none
  |f+1,v3,v7=>
   if v3<v2 then match idx v7 v3 with
   |none=>none
   |some x1=>(match idx ((v7).set v3.toNat (⟨x1.N,x1.X &&& v1,x1.Z,x1.Ph⟩:Pl)) v3 with
   |none=>none
   |some x2=>Ptb_CutL3 v0 v1 v2 v4 v5 v6 f (IntKind.i64.wrap (v3+1)) (((v7).set v3.toNat (⟨x1.N,x1.X &&& v1,x1.Z,x1.Ph⟩:Pl)).set v3.toNat (⟨x2.N,x2.X,x2.Z &&& v1,x2.Ph⟩:Pl)))
   else some (v7)
theorem ltb_CutL3n0_0 (v0:List Int)(v1:BitVec 64)(v2 v4:Int)(v5 v6:List Pl):∀ (f:Nat) (v3:Int) (v7 y0:List Pl),Ptb_CutL3 v0 v1 v2 v4 v5 v6 f v3 v7=some (y0)→y0.length=v7.length:=by
 intro f
 induction f with
 |zero=>intro v3 v7 y0 h;simp only [Ptb_CutL3] at h;cases h
 |succ f ih=>
 intro v3 v7 y0 h
 simp only [Ptb_CutL3,Bool.cond_eq_ite] at h
 (repeat' split at h)<;>first
 |(cases h;done)
 |(cases h;simp only [List.length_set];done)
 |(cases h;rfl)
 |(have q:=ih _ _ _ h;simpa only [List.length_set] using q)
 |(have q:=ih _ _ _ h;(try simp only [List.length_set] at *);omega)
 |(cases h;(try simp only [List.length_set] at *);omega)
def Ptb_Cut (F:Nat)(a0_N:Int)(a0_Stab a0_Destab:List Pl)(a1:List Int):Option (Int×Int):=
  match Ptb_Check F a0_N a0_Stab a0_Destab with|none=>none|some r1=>(if r1=0 then match Ptb_unlike F a1 a0_N with|none=>none|some r2=>(bif r2 then (match Ptb_CutL0 a1 a1 (a1.length:Int) a0_N a0_Stab a0_Destab F 0#64 0 with
   |none=>none
   |some y3=>(if a0_Stab.length*32≤140737488355328 then if a0_Stab=[] then match Ptb_CutL1 a1 y3 ([]) 0 0 a0_N a0_Stab a0_Destab F with|none=>none|some _=>(match Ptb_echelon F ([]) a0_N with|none=>none|some r4=>(match Ptb_CutL2 a1 r4 (r4.length:Int) F 0 0 with
   |none=>none
   |some y5=>some (IntKind.i64.wrap (y5-(a1.length:Int)),0)))
   else match Ptb_CutL3 a1 y3 ((a0_Stab.length:Nat):Int) a0_N a0_Stab a0_Destab F 0 a0_Stab with
   |none=>none
   |some y6=>(match Ptb_echelon F y6 a0_N with|none=>none|some r7=>(match Ptb_CutL2 a1 r7 (r7.length:Int) F 0 0 with
   |none=>none
   |some y8=>some (IntKind.i64.wrap (y8-(a1.length:Int)),0)))
   else none))
   else some (0,2))
   else some (0,r1))
def Plaw14_TableauBackL0 (v0:List Int)(v1 v2 v3 v4 v7:Int)(v8 v9:List Pl)(v10:Int)(v11 v12:List Pl)(v13:Int)(v14 v15:List Pl):Nat→Bool→Int→Option Bool
  |0,_,_=>none
  |f+1,v5,v6=>
   if v6<(v0.length:Int) then bif v5 then Plaw14_TableauBackL0 v0 v1 v2 v3 v4 v7 v8 v9 v10 v11 v12 v13 v14 v15 f true (IntKind.i64.wrap (v6+1))
   else match idx v0 v6 with
   |none=>none
   |some x1=>Plaw14_TableauBackL0 v0 v1 v2 v3 v4 v7 v8 v9 v10 v11 v12 v13 v14 v15 f (decide (x1=v4)) (IntKind.i64.wrap (v6+1))
   else some (v5)
def Plaw14_TableauBackL1 (v0:List Int)(v1 v2 v3 v4 v7:Int)(v8 v9:List Pl)(v10:Int)(v11 v12:List Pl)(v13:Int)(v14 v15:List Pl)(v16:List Int):Nat→Bool→Int→Option Bool
  |0,_,_=>none
  |f+1,v5,v6=>
   if v6<(v0.length:Int) then bif v5 then Plaw14_TableauBackL1 v0 v1 v2 v3 v4 v7 v8 v9 v10 v11 v12 v13 v14 v15 v16 f true (IntKind.i64.wrap (v6+1))
   else match idx v0 v6 with
   |none=>none
   |some x1=>Plaw14_TableauBackL1 v0 v1 v2 v3 v4 v7 v8 v9 v10 v11 v12 v13 v14 v15 v16 f (decide (x1=v4)) (IntKind.i64.wrap (v6+1))
   else some (v5)
def Plaw14_TableauBackL2 (F:Nat)  : Nat→List Int→Int→Int→Int→Int→Int→List Pl→List Pl→Int→List Pl→List Pl→Int→List Pl→List Pl→List Int→Option (((List Int)×Int×Int×Int×Int×(List Pl)×(List Pl)×Int×(List Pl)×(List Pl)×Int×(List Pl)×(List Pl))⊕((List Int)×Int×Int×Int×Int×(List Pl)×(List Pl)×Int×(List Pl)×(List Pl)×Int×(List Pl)×(List Pl)×(List Int)))
  |0,_,_,_,_,_,_,_,_,_,_,_,_,_,_,_=>none
  |f+1,v0,v1,v2,v3,v4,v5,v6,v7,v8,v9,v10,v11,v12,v13,v14=>
   if v4<v5 then match Plaw14_TableauBackL1 v0 v1 v2 v3 v4 v5 v6 v7 v8 v9 v10 v11 v12 v13 v14 F false 0 with
   |none=>none
   |some y1=>(bif y1 then Plaw14_TableauBackL2 F f v0 v1 v2 v3 (IntKind.i64.wrap (v4+1)) v5 v6 v7 v8 v9 v10 v11 v12 v13 v14
   else if (v14.length+1)*8≤140737488355328 then Plaw14_TableauBackL2 F f v0 v1 v2 v3 (IntKind.i64.wrap (v4+1)) v5 v6 v7 v8 v9 v10 v11 v12 v13 (v14++[v4])
   else none)
   else some (.inr (v0,v1,v2,v3,v5,v6,v7,v8,v9,v10,v11,v12,v13,v14))
def Plaw14_TableauBackL3 (F:Nat)  : Nat→List Int→Int→Int→Int→Int→Int→List Pl→List Pl→Int→List Pl→List Pl→Int→List Pl→List Pl→Option (((List Int)×Int×Int×Int×Int×(List Pl)×(List Pl)×Int×(List Pl)×(List Pl)×Int×(List Pl)×(List Pl))⊕((List Int)×Int×Int×Int×Int×(List Pl)×(List Pl)×Int×(List Pl)×(List Pl)×Int×(List Pl)×(List Pl)×(List Int)))
  |0,_,_,_,_,_,_,_,_,_,_,_,_,_,_=>none
  |f+1,v0,v1,v2,v3,v4,v5,v6,v7,v8,v9,v10,v11,v12,v13=>
   if v4<v5 then match Plaw14_TableauBackL0 v0 v1 v2 v3 v4 v5 v6 v7 v8 v9 v10 v11 v12 v13 F false 0 with
   |none=>none
   |some y1=>(bif y1 then Plaw14_TableauBackL3 F f v0 v1 v2 v3 (IntKind.i64.wrap (v4+1)) v5 v6 v7 v8 v9 v10 v11 v12 v13
   else Plaw14_TableauBackL2 F f v0 v1 v2 v3 (IntKind.i64.wrap (v4+1)) v5 v6 v7 v8 v9 v10 v11 v12 v13 ([v4]))
   else some (.inl (v0,v1,v2,v3,v5,v6,v7,v8,v9,v10,v11,v12,v13))
def Pref14_SameRowsL0 (v0 v1:List Pl):Nat→Int→Option (Unit⊕(Unit))
  |0,_=>none
  |f+1,v2=>
   if v2<(v0.length:Int) then match idx v0 v2 with
   |none=>none
   |some x1=>(match idx v1 v2 with
   |none=>none
   |some x2=>(bif (decide (x1.N=x2.N)&&(decide (x1.X=x2.X)&&(decide (x1.Z=x2.Z)&&decide (x1.Ph=x2.Ph)))) then Pref14_SameRowsL0 v0 v1 f (IntKind.i64.wrap (v2+1))
   else some (.inl ())))
   else some (.inr ())
def Pref14_SameRows (F:Nat)(a0 a1:List Pl):Option Bool:=
  if (a0.length:Int)=(a1.length:Int) then match Pref14_SameRowsL0 a0 a1 F 0 with
   |none=>none
   |some (.inl _)=>some false
   |some (.inr _)=>some true
  else some false
def Pref14_Alike (F:Nat)(a0_N:Int)(a0_Stab a0_Destab:List Pl)(a1_N:Int)(a1_Stab a1_Destab:List Pl):Option Bool:=
  if a0_N=a1_N then match Pref14_SameRows F a0_Stab a1_Stab with|none=>none|some r1=>(bif r1 then (match Pref14_SameRows F a0_Destab a1_Destab with|none=>none|some r2=>some r2)
   else some false)
  else some false
def Plaw14_TableauBack (F:Nat)(a0_N:Int)(a0_Stab a0_Destab:List Pl)(a1:Int)(a2 a3:List Int):Option Bool:=
  match Ptb_Gate F a0_N a0_Stab a0_Destab a1 a2 with|none=>none|some (r1,r2,r3,r4)=>(if (Plaw14_num r4)=0 then match Pgate_Inverse a1 with|none=>none|some r5=>(match Ptb_Gate F r1 r2 r3 r5 a2 with|none=>none|some (r6,r7,r8,r9)=>(match Ptb_Cut F a0_N a0_Stab a0_Destab a3 with|none=>none|some (r10,r11)=>(match Plaw14_TableauBackL3 F F a3 r9 r10 r11 0 a0_N a0_Stab a0_Destab r1 r2 r3 r6 r7 r8 with
   |none=>none
   |some (.inl (y12,y13,y14,y15,y16,y17,y18,y19,y20,y21,y22,y23,y24))=>(match Ptb_Cut F y16 y17 y18 ([]) with|none=>none|some (r39,r40)=>(if (Plaw14_num y13)=0 then match Pref14_Alike F y22 y23 y24 y16 y17 y18 with|none=>none|some r41=>(bif r41 then (match Ptb_Check F y19 y20 y21 with|none=>none|some r42=>(if (Plaw14_num r42)=0 then if (Plaw14_num r40)=0 then if (Plaw14_num y15)=0 then if y14=r39 then if y14≥0 then if y14≤(y12.length:Int) then if y14≤0 then some true
   else some false
   else some false
   else some false
   else some false
   else some true
   else some false
   else some false))
   else some false)
   else some false))
   |some (.inr (y25,y26,y27,y28,y29,y30,y31,y32,y33,y34,y35,y36,y37,y38))=>(match Ptb_Cut F y29 y30 y31 y38 with|none=>none|some (r43,r44)=>(if (Plaw14_num y26)=0 then match Pref14_Alike F y35 y36 y37 y29 y30 y31 with|none=>none|some r45=>(bif r45 then (match Ptb_Check F y32 y33 y34 with|none=>none|some r46=>(if (Plaw14_num r46)=0 then if (Plaw14_num r44)=0 then if (Plaw14_num y28)=0 then if y27=r43 then if y27≥0 then if y27≤(y25.length:Int) then if y27≤(((y38.length:Nat):Int)) then some true
   else some false
   else some false
   else some false
   else some false
   else some true
   else some false
   else some false))
   else some false)
   else some false)))))
   else if r1=0 then if (r2.length:Int)=0 then some true
   else some false
   else some false)
def Pref14_Copy (a0_N:Int)(a0_Stab a0_Destab:List Pl):Option (Int×(List Pl)×(List Pl)):=
  if a0_Stab=[] then if a0_Destab=[] then some (a0_N,[],[])
   else if a0_Destab.length*32≤140737488355328 then some (a0_N,[],a0_Destab)
   else none
  else if a0_Stab.length*32≤140737488355328 then if a0_Destab=[] then some (a0_N,a0_Stab,[])
   else if a0_Destab.length*32≤140737488355328 then some (a0_N,a0_Stab,a0_Destab)
   else none
   else none
def Ptb_Canon (F:Nat)(a0_N:Int)(a0_Stab a0_Destab:List Pl):Option ((List Pl)×Int):=
  match Ptb_Check F a0_N a0_Stab a0_Destab with|none=>none|some r1=>(if r1=0 then match Ptb_echelon F a0_Stab a0_N with|none=>none|some r2=>(if r2=[] then some ([],0)
   else some (r2,0))
   else some ([],r1))
def Pslices_Equal_PauliL0 (v0 v1:List Pl)(v2:Int):Nat→Int→Option (Unit⊕(Unit))
  |0,_=>none
  |f+1,v3=>
   if v3<v2 then match idx v0 v3 with
   |none=>none
   |some x1=>(match idx v1 v3 with
   |none=>none
   |some x2=>(bif (decide (x1.N=x2.N)&&(decide (x1.X=x2.X)&&(decide (x1.Z=x2.Z)&&decide (x1.Ph=x2.Ph)))) then Pslices_Equal_PauliL0 v0 v1 v2 f (IntKind.i64.wrap (v3+1))
   else some (.inl ())))
   else some (.inr ())
def Pslices_Equal_Pauli (F:Nat)(a0 a1:List Pl):Option Bool:=
  if (a0.length:Int)=(a1.length:Int) then match Pslices_Equal_PauliL0 a0 a1 (a0.length:Int) F 0 with
   |none=>none
   |some (.inl _)=>some false
   |some (.inr _)=>some true
  else some false
def Ptb_Same (F:Nat)(a0_N:Int)(a0_Stab a0_Destab:List Pl)(a1_N:Int)(a1_Stab a1_Destab:List Pl):Option Bool:=
  match Ptb_Canon F a0_N a0_Stab a0_Destab with|none=>none|some (r1,r2)=>(match Ptb_Canon F a1_N a1_Stab a1_Destab with|none=>none|some (r3,r4)=>(if r2=0 then if r4=0 then if a0_N=a1_N then match Pslices_Equal_Pauli F r1 r3 with|none=>none|some r5=>some r5
   else some false
   else some false
   else some false))
def Plaw14_TableauCanon (F:Nat)(a0_N:Int)(a0_Stab a0_Destab:List Pl)(a1 a2:Int):Option Bool:=
  match Ptb_Check F a0_N a0_Stab a0_Destab with|none=>none|some r1=>(if (Plaw14_num r1)=0 then if a0_N<2 then some true
   else if (BitVec.ofInt 64 a0_N)=0#64 then none
   else if (((BitVec.ofInt 64 a1) % (BitVec.ofInt 64 a0_N)).toInt)=(((BitVec.ofInt 64 a2) % (BitVec.ofInt 64 a0_N)).toInt) then some true
   else match Pref14_Copy a0_N a0_Stab a0_Destab with|none=>none|some (r2,r3,r4)=>(if r3=[] then if r4=[] then match idx a0_Stab (((BitVec.ofInt 64 a1) % (BitVec.ofInt 64 a0_N)).toInt) with
   |none=>none
   |some x5=>(match idx a0_Stab (((BitVec.ofInt 64 a2) % (BitVec.ofInt 64 a0_N)).toInt) with
   |none=>none
   |some x6=>(match Ppauli_Mul F x5.N x5.X x5.Z x5.Ph x6.N x6.X x6.Z x6.Ph with|none=>none|some (r7,r8,r9,r10,r11)=>(match idx a0_Destab (((BitVec.ofInt 64 a2) % (BitVec.ofInt 64 a0_N)).toInt) with
   |none=>none
   |some x12=>(match idx a0_Destab (((BitVec.ofInt 64 a1) % (BitVec.ofInt 64 a0_N)).toInt) with
   |none=>none
   |some x13=>(match Ppauli_Mul F x12.N x12.X x12.Z x12.Ph x13.N x13.X x13.Z x13.Ph with|none=>none|some (r14,r15,r16,r17,r18)=>(if (Plaw14_num r11)=0 then if (Plaw14_num r18)=0 then none
   else some false
   else some false))))))
   else match idx a0_Stab (((BitVec.ofInt 64 a1) % (BitVec.ofInt 64 a0_N)).toInt) with
   |none=>none
   |some x19=>(match idx a0_Stab (((BitVec.ofInt 64 a2) % (BitVec.ofInt 64 a0_N)).toInt) with
   |none=>none
   |some x20=>(match Ppauli_Mul F x19.N x19.X x19.Z x19.Ph x20.N x20.X x20.Z x20.Ph with|none=>none|some (r21,r22,r23,r24,r25)=>(match idx a0_Destab (((BitVec.ofInt 64 a2) % (BitVec.ofInt 64 a0_N)).toInt) with
   |none=>none
   |some x26=>(match idx a0_Destab (((BitVec.ofInt 64 a1) % (BitVec.ofInt 64 a0_N)).toInt) with
   |none=>none
   |some x27=>(match Ppauli_Mul F x26.N x26.X x26.Z x26.Ph x27.N x27.X x27.Z x27.Ph with|none=>none|some (r28,r29,r30,r31,r32)=>(if (Plaw14_num r25)=0 then if (Plaw14_num r32)=0 then none
   else some false
   else some false))))))
   else if r4=[] then match idx a0_Stab (((BitVec.ofInt 64 a1) % (BitVec.ofInt 64 a0_N)).toInt) with
   |none=>none
   |some x33=>(match idx a0_Stab (((BitVec.ofInt 64 a2) % (BitVec.ofInt 64 a0_N)).toInt) with
   |none=>none
   |some x34=>(match Ppauli_Mul F x33.N x33.X x33.Z x33.Ph x34.N x34.X x34.Z x34.Ph with|none=>none|some (r35,r36,r37,r38,r39)=>(match idx a0_Destab (((BitVec.ofInt 64 a2) % (BitVec.ofInt 64 a0_N)).toInt) with
   |none=>none
   |some x40=>(match idx a0_Destab (((BitVec.ofInt 64 a1) % (BitVec.ofInt 64 a0_N)).toInt) with
   |none=>none
   |some x41=>(match Ppauli_Mul F x40.N x40.X x40.Z x40.Ph x41.N x41.X x41.Z x41.Ph with|none=>none|some (r42,r43,r44,r45,r46)=>(if (Plaw14_num r39)=0 then if (Plaw14_num r46)=0 then match idx r3 (((BitVec.ofInt 64 a1) % (BitVec.ofInt 64 a0_N)).toInt) with
   |none=>none
   |some x47=>none
   else some false
   else some false))))))
   else match idx a0_Stab (((BitVec.ofInt 64 a1) % (BitVec.ofInt 64 a0_N)).toInt) with
   |none=>none
   |some x48=>(match idx a0_Stab (((BitVec.ofInt 64 a2) % (BitVec.ofInt 64 a0_N)).toInt) with
   |none=>none
   |some x49=>(match Ppauli_Mul F x48.N x48.X x48.Z x48.Ph x49.N x49.X x49.Z x49.Ph with|none=>none|some (r50,r51,r52,r53,r54)=>(match idx a0_Destab (((BitVec.ofInt 64 a2) % (BitVec.ofInt 64 a0_N)).toInt) with
   |none=>none
   |some x55=>(match idx a0_Destab (((BitVec.ofInt 64 a1) % (BitVec.ofInt 64 a0_N)).toInt) with
   |none=>none
   |some x56=>(match Ppauli_Mul F x55.N x55.X x55.Z x55.Ph x56.N x56.X x56.Z x56.Ph with|none=>none|some (r57,r58,r59,r60,r61)=>(if (Plaw14_num r54)=0 then if (Plaw14_num r61)=0 then match idx r3 (((BitVec.ofInt 64 a1) % (BitVec.ofInt 64 a0_N)).toInt) with
   |none=>none
   |some x62=>(match idx r4 (((BitVec.ofInt 64 a2) % (BitVec.ofInt 64 a0_N)).toInt) with
   |none=>none
   |some x63=>(match idx r4 (((BitVec.ofInt 64 a1) % (BitVec.ofInt 64 a0_N)).toInt) with
   |none=>none
   |some x64=>(match idx r3 (((BitVec.ofInt 64 a2) % (BitVec.ofInt 64 a0_N)).toInt) with
   |none=>none
   |some x65=>(match idx ((r3).set (((BitVec.ofInt 64 a1) % (BitVec.ofInt 64 a0_N)).toInt).toNat x65) (((BitVec.ofInt 64 a2) % (BitVec.ofInt 64 a0_N)).toInt) with
   |none=>none
   |some x66=>(match idx ((r4).set (((BitVec.ofInt 64 a1) % (BitVec.ofInt 64 a0_N)).toInt).toNat x63) (((BitVec.ofInt 64 a2) % (BitVec.ofInt 64 a0_N)).toInt) with
   |none=>none
   |some x67=>(match Ptb_Check F r2 ((r3).set (((BitVec.ofInt 64 a1) % (BitVec.ofInt 64 a0_N)).toInt).toNat (⟨r50,r51,r52,r53⟩:Pl)) ((r4).set (((BitVec.ofInt 64 a2) % (BitVec.ofInt 64 a0_N)).toInt).toNat (⟨r57,r58,r59,r60⟩:Pl)) with|none=>none|some r68=>(if (Plaw14_num r68)=0 then match Ptb_Check F r2 (((r3).set (((BitVec.ofInt 64 a1) % (BitVec.ofInt 64 a0_N)).toInt).toNat x65).set (((BitVec.ofInt 64 a2) % (BitVec.ofInt 64 a0_N)).toInt).toNat x62) (((r4).set (((BitVec.ofInt 64 a1) % (BitVec.ofInt 64 a0_N)).toInt).toNat x63).set (((BitVec.ofInt 64 a2) % (BitVec.ofInt 64 a0_N)).toInt).toNat x64) with|none=>none|some r69=>(if (Plaw14_num r69)=0 then match Ptb_Same F a0_N a0_Stab a0_Destab r2 ((r3).set (((BitVec.ofInt 64 a1) % (BitVec.ofInt 64 a0_N)).toInt).toNat (⟨r50,r51,r52,r53⟩:Pl)) ((r4).set (((BitVec.ofInt 64 a2) % (BitVec.ofInt 64 a0_N)).toInt).toNat (⟨r57,r58,r59,r60⟩:Pl)) with|none=>none|some r70=>(bif r70 then (match Ptb_Same F a0_N a0_Stab a0_Destab r2 (((r3).set (((BitVec.ofInt 64 a1) % (BitVec.ofInt 64 a0_N)).toInt).toNat x65).set (((BitVec.ofInt 64 a2) % (BitVec.ofInt 64 a0_N)).toInt).toNat x62) (((r4).set (((BitVec.ofInt 64 a1) % (BitVec.ofInt 64 a0_N)).toInt).toNat x63).set (((BitVec.ofInt 64 a2) % (BitVec.ofInt 64 a0_N)).toInt).toNat x64) with|none=>none|some r71=>(bif r71 then some true
   else some false))
   else some false)
   else some false)
   else some false)))))))
   else some false
   else some false)))))))
   else some true)
def Ptb_sureL0 (F:Nat)(v0:List Pl)(v1 v3:Int)(v4 v5:List Pl)(v6:Int)(v7 v8:BitVec 64)(v9 v10:Int)(v11 v12:BitVec 64)(v13:Int):Nat→Int→Int→BitVec 64→BitVec 64→Int→Option (Int×(BitVec 64)×(BitVec 64)×Int)
  |0,_,_,_,_,_=>none
  |f+1,v2,v14,v15,v16,v17=>
   if v2<v1 then match idx v0 v2 with
   |none=>none
   |some x1=>(bif (Ptb_commute x1.N x1.X x1.Z x1.Ph v6 v7 v8 v9) then Ptb_sureL0 F v0 v1 v3 v4 v5 v6 v7 v8 v9 v10 v11 v12 v13 f (IntKind.i64.wrap (v2+1)) v14 v15 v16 v17
   else match idx v4 v2 with
   |none=>none
   |some x2=>(match Ptb_mul F v14 v15 v16 v17 x2.N x2.X x2.Z x2.Ph with|none=>none|some (r3,r4,r5,r6)=>Ptb_sureL0 F v0 v1 v3 v4 v5 v6 v7 v8 v9 v10 v11 v12 v13 f (IntKind.i64.wrap (v2+1)) r3 r4 r5 r6))
   else some (v14,v15,v16,v17)
def Ptb_sure (F:Nat)(a0_N:Int)(a0_Stab a0_Destab:List Pl)(a1_N:Int)(a1_X a1_Z:BitVec 64)(a1_Phase:Int):Option (Int×(BitVec 64)×(BitVec 64)×Int):=
  match Ptb_sureL0 F a0_Destab (a0_Destab.length:Int) a0_N a0_Stab a0_Destab a1_N a1_X a1_Z a1_Phase 0 0#64 0#64 0 F 0 a0_N 0#64 0#64 0 with
  |none=>none
  |some (y1,y2,y3,y4)=>some (y1,y2,y3,y4)
def Ptb_Member (F:Nat)(a0_N:Int)(a0_Stab a0_Destab:List Pl)(a1_N:Int)(a1_X a1_Z:BitVec 64)(a1_Phase:Int):Option (Int×Int):=
  match Ptb_Check F a0_N a0_Stab a0_Destab with|none=>none|some r1=>(if r1=0 then if a1_N=a0_N then bif (Ppauli_Hermitian a1_N a1_X a1_Z a1_Phase) then (match Ptb_sure F a0_N a0_Stab a0_Destab a1_N a1_X a1_Z a1_Phase with|none=>none|some (r2,r3,r4,r5)=>(if r3=a1_X then if r4=a1_Z then if r5=a1_Phase then some (1,0)
   else some (((-1):Int),0)
   else some (0,0)
   else some (0,0)))
   else some (0,2)
   else some (0,2)
   else some (0,r1))
def Ptb_ForceL0 (v0:List Pl)(v1:Int)(v2 v3:BitVec 64)(v4 v5:Int):Nat→Int→Option (Int⊕(Unit))
  |0,_=>none
  |f+1,v6=>
   if v6<v5 then match idx v0 v6 with
   |none=>none
   |some x1=>(bif (Ptb_commute x1.N x1.X x1.Z x1.Ph v1 v2 v3 v4) then Ptb_ForceL0 v0 v1 v2 v3 v4 v5 f (IntKind.i64.wrap (v6+1))
   else some (.inl v6))
   else some (.inr ())
def Ptb_replacedL0 (F:Nat)(v0 v1:List Pl)(v2 v4:Int)(v5 v6:BitVec 64)(v7 v8 v9:Int)(v10 v11:List Pl):Nat→Int→Option Unit
  |0,_=>none
  |f+1,v3=>
   if v3<v2 then match idx v1 v3 with
   |none=>none
   |some x1=>(if v3=v8 then Ptb_replacedL0 F v0 v1 v2 v4 v5 v6 v7 v8 v9 v10 v11 f (IntKind.i64.wrap (v3+1))
   else bif (Ptb_commute x1.N x1.X x1.Z x1.Ph v4 v5 v6 v7) then Ptb_replacedL0 F v0 v1 v2 v4 v5 v6 v7 v8 v9 v10 v11 f (IntKind.i64.wrap (v3+1))
   else match idx v10 v8 with
   |none=>none
   |some x2=>(match Ptb_mul F x1.N x1.X x1.Z x1.Ph x2.N x2.X x2.Z x2.Ph with|none=>none|some (r3,r4,r5,r6)=>(match idx v0 v3 with
   |none=>none
   |some x7=>none)))
   else some ()
def Ptb_replacedL1 (F:Nat)(v0 v1:List Pl)(v2:Int)(v4:List Pl)(v5:Int)(v6 v7:BitVec 64)(v8 v9 v10:Int)(v11 v12:List Pl):Nat→Int→Option Unit
  |0,_=>none
  |f+1,v3=>
   if v3<v2 then match idx v1 v3 with
   |none=>none
   |some x1=>(if v3=v9 then Ptb_replacedL1 F v0 v1 v2 v4 v5 v6 v7 v8 v9 v10 v11 v12 f (IntKind.i64.wrap (v3+1))
   else bif (Ptb_commute x1.N x1.X x1.Z x1.Ph v5 v6 v7 v8) then Ptb_replacedL1 F v0 v1 v2 v4 v5 v6 v7 v8 v9 v10 v11 v12 f (IntKind.i64.wrap (v3+1))
   else match idx v11 v9 with
   |none=>none
   |some x2=>(match Ptb_mul F x1.N x1.X x1.Z x1.Ph x2.N x2.X x2.Z x2.Ph with|none=>none|some (r3,r4,r5,r6)=>(match idx v0 v3 with
   |none=>none
   |some x7=>none)))
   else some ()
def Ptb_replacedL2 (F:Nat)(v0 v3:Int)(v4 v5:BitVec 64)(v6 v7 v8:Int)(v9 v10:List Pl):Nat→Int→List Pl→Option (List Pl)
  |0,_,_=>none
  |f+1,v1,v2=>
   if v1<v0 then match idx v2 v1 with
   |none=>none
   |some x1=>(if v1=v7 then Ptb_replacedL2 F v0 v3 v4 v5 v6 v7 v8 v9 v10 f (IntKind.i64.wrap (v1+1)) v2
   else bif (Ptb_commute x1.N x1.X x1.Z x1.Ph v3 v4 v5 v6) then Ptb_replacedL2 F v0 v3 v4 v5 v6 v7 v8 v9 v10 f (IntKind.i64.wrap (v1+1)) v2
   else match idx v9 v7 with
   |none=>none
   |some x2=>(match Ptb_mul F x1.N x1.X x1.Z x1.Ph x2.N x2.X x2.Z x2.Ph with|none=>none|some (r3,r4,r5,r6)=>Ptb_replacedL2 F v0 v3 v4 v5 v6 v7 v8 v9 v10 f (IntKind.i64.wrap (v1+1)) ((v2).set v1.toNat (⟨r3,r4,r5,r6⟩:Pl))))
   else some (v2)
theorem ltb_replacedL2n0_0 (F:Nat)(v0 v3:Int)(v4 v5:BitVec 64)(v6 v7 v8:Int)(v9 v10:List Pl):∀ (f:Nat) (v1:Int) (v2 y0:List Pl),Ptb_replacedL2 F v0 v3 v4 v5 v6 v7 v8 v9 v10 f v1 v2=some (y0)→y0.length=v2.length:=by
 intro f
 induction f with
 |zero=>intro v1 v2 y0 h;simp only [Ptb_replacedL2] at h;cases h
 |succ f ih=>
 intro v1 v2 y0 h
 simp only [Ptb_replacedL2,Bool.cond_eq_ite] at h
 (repeat' split at h)<;>first
 |(cases h;done)
 |(cases h;simp only [List.length_set];done)
 |(cases h;rfl)
 |(have q:=ih _ _ _ h;simpa only [List.length_set] using q)
 |(have q:=ih _ _ _ h;(try simp only [List.length_set] at *);omega)
 |(cases h;(try simp only [List.length_set] at *);omega)
def Ptb_replacedL3 (F:Nat)(v0:Int)(v3:List Pl)(v4:Int)(v5 v6:BitVec 64)(v7 v8 v9:Int)(v10 v11:List Pl):Nat→Int→List Pl→Option (List Pl)
  |0,_,_=>none
  |f+1,v1,v2=>
   if v1<v0 then match idx v2 v1 with
   |none=>none
   |some x1=>(if v1=v8 then Ptb_replacedL3 F v0 v3 v4 v5 v6 v7 v8 v9 v10 v11 f (IntKind.i64.wrap (v1+1)) v2
   else bif (Ptb_commute x1.N x1.X x1.Z x1.Ph v4 v5 v6 v7) then Ptb_replacedL3 F v0 v3 v4 v5 v6 v7 v8 v9 v10 v11 f (IntKind.i64.wrap (v1+1)) v2
   else match idx v10 v8 with
   |none=>none
   |some x2=>(match Ptb_mul F x1.N x1.X x1.Z x1.Ph x2.N x2.X x2.Z x2.Ph with|none=>none|some (r3,r4,r5,r6)=>Ptb_replacedL3 F v0 v3 v4 v5 v6 v7 v8 v9 v10 v11 f (IntKind.i64.wrap (v1+1)) ((v2).set v1.toNat (⟨r3,r4,r5,r6⟩:Pl))))
   else some (v2)
theorem ltb_replacedL3n0_0 (F:Nat)(v0:Int)(v3:List Pl)(v4:Int)(v5 v6:BitVec 64)(v7 v8 v9:Int)(v10 v11:List Pl):∀ (f:Nat) (v1:Int) (v2 y0:List Pl),Ptb_replacedL3 F v0 v3 v4 v5 v6 v7 v8 v9 v10 v11 f v1 v2=some (y0)→y0.length=v2.length:=by
 intro f
 induction f with
 |zero=>intro v1 v2 y0 h;simp only [Ptb_replacedL3] at h;cases h
 |succ f ih=>
 intro v1 v2 y0 h
 simp only [Ptb_replacedL3,Bool.cond_eq_ite] at h
 (repeat' split at h)<;>first
 |(cases h;done)
 |(cases h;simp only [List.length_set];done)
 |(cases h;rfl)
 |(have q:=ih _ _ _ h;simpa only [List.length_set] using q)
 |(have q:=ih _ _ _ h;(try simp only [List.length_set] at *);omega)
 |(cases h;(try simp only [List.length_set] at *);omega)
def Ptb_replacedL4 (F:Nat)(v0:Int)(v2:List Pl)(v4:Int)(v5 v6:BitVec 64)(v7 v8 v9:Int)(v10 v11:List Pl):Nat→Int→List Pl→Option (List Pl)
  |0,_,_=>none
  |f+1,v1,v3=>
   if v1<v0 then match idx v3 v1 with
   |none=>none
   |some x1=>(if v1=v8 then Ptb_replacedL4 F v0 v2 v4 v5 v6 v7 v8 v9 v10 v11 f (IntKind.i64.wrap (v1+1)) v3
   else bif (Ptb_commute x1.N x1.X x1.Z x1.Ph v4 v5 v6 v7) then Ptb_replacedL4 F v0 v2 v4 v5 v6 v7 v8 v9 v10 v11 f (IntKind.i64.wrap (v1+1)) v3
   else match idx v10 v8 with
   |none=>none
   |some x2=>(match Ptb_mul F x1.N x1.X x1.Z x1.Ph x2.N x2.X x2.Z x2.Ph with|none=>none|some (r3,r4,r5,r6)=>Ptb_replacedL4 F v0 v2 v4 v5 v6 v7 v8 v9 v10 v11 f (IntKind.i64.wrap (v1+1)) ((v3).set v1.toNat (⟨r3,r4,r5,r6⟩:Pl))))
   else some (v3)
theorem ltb_replacedL4n0_0 (F:Nat)(v0:Int)(v2:List Pl)(v4:Int)(v5 v6:BitVec 64)(v7 v8 v9:Int)(v10 v11:List Pl):∀ (f:Nat) (v1:Int) (v3 y0:List Pl),Ptb_replacedL4 F v0 v2 v4 v5 v6 v7 v8 v9 v10 v11 f v1 v3=some (y0)→y0.length=v3.length:=by
 intro f
 induction f with
 |zero=>intro v1 v3 y0 h;simp only [Ptb_replacedL4] at h;cases h
 |succ f ih=>
 intro v1 v3 y0 h
 simp only [Ptb_replacedL4,Bool.cond_eq_ite] at h
 (repeat' split at h)<;>first
 |(cases h;done)
 |(cases h;simp only [List.length_set];done)
 |(cases h;rfl)
 |(have q:=ih _ _ _ h;simpa only [List.length_set] using q)
 |(have q:=ih _ _ _ h;(try simp only [List.length_set] at *);omega)
 |(cases h;(try simp only [List.length_set] at *);omega)
def Ptb_replaced (F:Nat)(a0_N:Int)(a0_Stab a0_Destab:List Pl)(a1 a2_N:Int)(a2_X a2_Z:BitVec 64)(a2_Phase:Int):Option (Int×(List Pl)×(List Pl)):=
  match Ptb_copied a0_N a0_Stab a0_Destab with|none=>none|some (r1,r2,r3)=>(if r2=[] then if r3=[] then match Ptb_replacedL0 F ([]) ([]) 0 a2_N a2_X a2_Z a2_Phase a1 a0_N a0_Stab a0_Destab F 0 with|none=>none|some _=>(match idx a0_Stab a1 with
   |none=>none
   |some x4=>none)
   else match Ptb_replacedL1 F ([]) ([]) 0 r3 a2_N a2_X a2_Z a2_Phase a1 a0_N a0_Stab a0_Destab F 0 with|none=>none|some _=>(match Ptb_replacedL2 F ((r3.length:Nat):Int) a2_N a2_X a2_Z a2_Phase a1 a0_N a0_Stab a0_Destab F 0 r3 with
   |none=>none
   |some y5=>(match idx a0_Stab a1 with
   |none=>none
   |some x6=>(match idx y5 a1 with
   |none=>none
   |some x7=>none)))
   else if r3=[] then match Ptb_replacedL2 F ((r2.length:Nat):Int) a2_N a2_X a2_Z a2_Phase a1 a0_N a0_Stab a0_Destab F 0 r2 with
   |none=>none
   |some y8=>(match Ptb_replacedL1 F ([]) ([]) 0 y8 a2_N a2_X a2_Z a2_Phase a1 a0_N a0_Stab a0_Destab F 0 with|none=>none|some _=>(match idx a0_Stab a1 with
   |none=>none
   |some x9=>none))
   else match Ptb_replacedL3 F ((r2.length:Nat):Int) r3 a2_N a2_X a2_Z a2_Phase a1 a0_N a0_Stab a0_Destab F 0 r2 with
   |none=>none
   |some y10=>(match Ptb_replacedL4 F ((r3.length:Nat):Int) y10 a2_N a2_X a2_Z a2_Phase a1 a0_N a0_Stab a0_Destab F 0 r3 with
   |none=>none
   |some y11=>(match idx a0_Stab a1 with
   |none=>none
   |some x12=>(match idx y11 a1 with
   |none=>none
   |some x13=>(match idx y10 a1 with
   |none=>none
   |some x14=>some (r1,(y10).set a1.toNat (⟨a2_N,a2_X,a2_Z,a2_Phase⟩:Pl),(y11).set a1.toNat x12))))))
def Ptb_Force (F:Nat)(a0_N:Int)(a0_Stab a0_Destab:List Pl)(a1_N:Int)(a1_X a1_Z:BitVec 64)(a1_Phase:Int):Option (Int×(List Pl)×(List Pl)×Int×Int):=
  match Ptb_Member F a0_N a0_Stab a0_Destab a1_N a1_X a1_Z a1_Phase with|none=>none|some (r1,r2)=>(if r2=0 then if r1=(((-1):Int)) then some (0,[],[],0,142)
   else if r1=1 then match Ptb_copied a0_N a0_Stab a0_Destab with|none=>none|some (r3,r4,r5)=>some (r3,r4,r5,0,0)
   else match Ptb_ForceL0 a0_Stab a1_N a1_X a1_Z a1_Phase (a0_Stab.length:Int) F 0 with
   |none=>none
   |some (.inl y6)=>(match Ptb_replaced F a0_N a0_Stab a0_Destab y6 a1_N a1_X a1_Z a1_Phase with|none=>none|some (r7,r8,r9)=>some (r7,r8,r9,1,0))
   |some (.inr _)=>(match Ptb_replaced F a0_N a0_Stab a0_Destab ((-1):Int) a1_N a1_X a1_Z a1_Phase with|none=>none|some (r10,r11,r12)=>some (r10,r11,r12,1,0))
   else some (0,[],[],0,r2))
def Pref13_bit (a0:BitVec 64)(a1:Int):Int:=
  ((a0 >>> ((BitVec.ofInt 64 a1)).toNat) &&& 1#64).toInt
def Pref13_RightL0 (v1:Int)(v2 v3:BitVec 64)(v4:Int):Nat→Int→Option (Unit⊕(Unit))
  |0,_=>none
  |f+1,v0=>
   if v0<64 then if (Pref13_bit v2 v0)=1 then some (.inl ())
   else if (Pref13_bit v3 v0)=1 then some (.inl ())
   else Pref13_RightL0 v1 v2 v3 v4 f (IntKind.i64.wrap (v0+1))
   else some (.inr ())
def Pref13_Right (F:Nat)(a0_N:Int)(a0_X a0_Z:BitVec 64)(a0_Phase:Int):Option Bool:=
  if a0_N<0 then some false
  else if a0_N>64 then some false
   else if a0_Phase<0 then some false
   else if a0_Phase>3 then some false
   else match Pref13_RightL0 a0_N a0_X a0_Z a0_Phase F a0_N with
   |none=>none
   |some (.inl _)=>some false
   |some (.inr _)=>some true
def Pref14_RightL0 (F:Nat)(v0 v1 v3:Int)(v4 v5:List Pl):Nat→Int→Option (Unit⊕(Unit))
  |0,_=>none
  |f+1,v2=>
   if v2<2 then match idx v4 v1 with
   |none=>none
   |some x1=>(if v2=1 then match idx v5 v1 with
   |none=>none
   |some x2=>(match Pref13_Right F x2.N x2.X x2.Z x2.Ph with|none=>none|some r3=>(bif r3 then (if x2.N=v0 then if (x2.Ph.tmod 2)=1 then some (.inl ())
   else Pref14_RightL0 F v0 v1 v3 v4 v5 f (IntKind.i64.wrap (v2+1))
   else some (.inl ()))
   else some (.inl ())))
   else match Pref13_Right F x1.N x1.X x1.Z x1.Ph with|none=>none|some r4=>(bif r4 then (if x1.N=v0 then if (x1.Ph.tmod 2)=1 then some (.inl ())
   else Pref14_RightL0 F v0 v1 v3 v4 v5 f (IntKind.i64.wrap (v2+1))
   else some (.inl ()))
   else some (.inl ())))
   else some (.inr ())
def Pref14_RightL1 (F:Nat)(v0 v2:Int)(v3 v4:List Pl):Nat→Int→Option (Unit⊕(Unit))
  |0,_=>none
  |f+1,v1=>
   if v1<v0 then match Pref14_RightL0 F v0 v1 v2 v3 v4 F 0 with
   |none=>none
   |some (.inl _)=>some (.inl ())
   |some (.inr _)=>Pref14_RightL1 F v0 v2 v3 v4 f (IntKind.i64.wrap (v1+1))
   else some (.inr ())
def Pref14_commuteL0  : Nat→Int→BitVec 64→Option Int
  |0,_,_=>none
  |f+1,v0,v1=>
   if v1=0#64 then some (v0)
   else Pref14_commuteL0 f (IntKind.i64.wrap (v0+1)) (v1 &&& (v1-1#64))
def Pref14_commute (F:Nat)(a0_N:Int)(a0_X a0_Z:BitVec 64)(a0_Phase a1_N:Int)(a1_X a1_Z:BitVec 64)(a1_Phase:Int):Option Bool:=
  match Pref14_commuteL0 F 0 ((a0_X &&& a1_Z) ^^^ (a0_Z &&& a1_X)) with
  |none=>none
  |some y1=>some (decide ((y1.tmod 2)=0))
def Pref14_RightL2 (F:Nat)(v0 v1 v3:Int)(v4 v5:List Pl):Nat→Int→Option (Unit⊕(Unit))
  |0,_=>none
  |f+1,v2=>
   if v2<v0 then match idx v4 v1 with
   |none=>none
   |some x1=>(match idx v4 v2 with
   |none=>none
   |some x2=>(match Pref14_commute F x1.N x1.X x1.Z x1.Ph x2.N x2.X x2.Z x2.Ph with|none=>none|some r3=>(bif r3 then (match idx v5 v1 with
   |none=>none
   |some x4=>(match idx v5 v2 with
   |none=>none
   |some x5=>(match Pref14_commute F x4.N x4.X x4.Z x4.Ph x5.N x5.X x5.Z x5.Ph with|none=>none|some r6=>(bif r6 then (match Pref14_commute F x4.N x4.X x4.Z x4.Ph x2.N x2.X x2.Z x2.Ph with|none=>none|some r7=>(if v1=v2 then bif r7 then some (.inl ())
   else Pref14_RightL2 F v0 v1 v3 v4 v5 f (IntKind.i64.wrap (v2+1))
   else bif r7 then Pref14_RightL2 F v0 v1 v3 v4 v5 f (IntKind.i64.wrap (v2+1))
   else some (.inl ())))
   else some (.inl ())))))
   else some (.inl ()))))
   else some (.inr ())
def Pref14_RightL3 (F:Nat)(v0 v2:Int)(v3 v4:List Pl):Nat→Int→Option (Unit⊕(Unit))
  |0,_=>none
  |f+1,v1=>
   if v1<v0 then match Pref14_RightL2 F v0 v1 v2 v3 v4 F 0 with
   |none=>none
   |some (.inl _)=>some (.inl ())
   |some (.inr _)=>Pref14_RightL3 F v0 v2 v3 v4 f (IntKind.i64.wrap (v1+1))
   else some (.inr ())
def Pref14_Right (F:Nat)(a0_N:Int)(a0_Stab a0_Destab:List Pl):Option Bool:=
  if a0_N<0 then some false
  else if a0_N>64 then some false
   else if (a0_Stab.length:Int)=a0_N then if (a0_Destab.length:Int)=a0_N then match Pref14_RightL1 F a0_N a0_N a0_Stab a0_Destab F 0 with
   |none=>none
   |some (.inl _)=>some false
   |some (.inr _)=>(match Pref14_RightL3 F a0_N a0_N a0_Stab a0_Destab F 0 with
   |none=>none
   |some (.inl _)=>some false
   |some (.inr _)=>some true)
   else some false
   else some false
def Pref14_looseL0 (F:Nat)(v1:Int)(v2 v3:List Pl)(v4:Int)(v5 v6:BitVec 64)(v7:Int):Nat→Int→Option (Int⊕(Unit))
  |0,_=>none
  |f+1,v0=>
   if v0<v1 then match idx v2 v0 with
   |none=>none
   |some x1=>(match Pref14_commute F x1.N x1.X x1.Z x1.Ph v4 v5 v6 v7 with|none=>none|some r2=>(bif r2 then Pref14_looseL0 F v1 v2 v3 v4 v5 v6 v7 f (IntKind.i64.wrap (v0+1))
   else some (.inl v0)))
   else some (.inr ())
def Pref14_loose (F:Nat)(a0_N:Int)(a0_Stab a0_Destab:List Pl)(a1_N:Int)(a1_X a1_Z:BitVec 64)(a1_Phase:Int):Option Int:=
  match Pref14_looseL0 F a0_N a0_Stab a0_Destab a1_N a1_X a1_Z a1_Phase F 0 with
  |none=>none
  |some (.inl y1)=>some y1
  |some (.inr _)=>some ((-1):Int)
def Pref13_Letter (F:Nat)(a0_N:Int)(a0_X a0_Z:BitVec 64)(a0_Phase a1:Int):Option Int:=
  match Pref13_Right F a0_N a0_X a0_Z a0_Phase with|none=>none|some r1=>(bif r1 then (if a1<0 then some 0
   else if a1≥a0_N then some 0
   else if (IntKind.i64.wrap ((IntKind.i64.wrap (2*(Pref13_bit a0_X a1)))+(Pref13_bit a0_Z a1)))=1 then some 90
   else if (IntKind.i64.wrap ((IntKind.i64.wrap (2*(Pref13_bit a0_X a1)))+(Pref13_bit a0_Z a1)))=2 then some 88
   else if (IntKind.i64.wrap ((IntKind.i64.wrap (2*(Pref13_bit a0_X a1)))+(Pref13_bit a0_Z a1)))=3 then some 89
   else some 73)
   else some 0)
def Pref13_one (a0 a1:Int):Int:=
  if a0=73 then 0
  else if a1=73 then 0
   else if a0=a1 then 0
   else if a0=88 then if a1=89 then 1
   else if a0=89 then if a1=90 then 1
   else if a0=90 then if a1=88 then 1
   else 3
   else 3
   else if a0=90 then if a1=88 then 1
   else 3
   else 3
   else if a0=89 then if a1=90 then 1
   else if a0=90 then if a1=88 then 1
   else 3
   else 3
   else if a0=90 then if a1=88 then 1
   else 3
   else 3
def Pref13_MulL0 (F:Nat)(v1:Int)(v2 v3:BitVec 64)(v4 v5:Int)(v6 v7:BitVec 64)(v8 v9:Int)(v10 v11:BitVec 64)(v12 v13:Int)(v14 v15:BitVec 64):Nat→Int→Int→Option Int
  |0,_,_=>none
  |f+1,v0,v16=>
   if v0<v1 then match Pref13_Letter F v1 v2 v3 v4 v0 with|none=>none|some r1=>(match Pref13_Letter F v5 v6 v7 v8 v0 with|none=>none|some r2=>Pref13_MulL0 F v1 v2 v3 v4 v5 v6 v7 v8 v9 v10 v11 v12 v13 v14 v15 f (IntKind.i64.wrap (v0+1)) (IntKind.i64.wrap (v16+(Pref13_one r1 r2))))
   else some (v16)
def Pref13_Mul (F:Nat)(a0_N:Int)(a0_X a0_Z:BitVec 64)(a0_Phase a1_N:Int)(a1_X a1_Z:BitVec 64)(a1_Phase:Int):Option (Int×(BitVec 64)×(BitVec 64)×Int×Int):=
  match Pref13_Right F a0_N a0_X a0_Z a0_Phase with|none=>none|some r1=>(bif r1 then (match Pref13_Right F a1_N a1_X a1_Z a1_Phase with|none=>none|some r2=>(bif r2 then (if a0_N=a1_N then match Pref13_MulL0 F a0_N a0_X a0_Z a0_Phase a1_N a1_X a1_Z a1_Phase 0 0#64 0#64 0 a0_N (a0_X ^^^ a1_X) (a0_Z ^^^ a1_Z) F 0 (IntKind.i64.wrap (a0_Phase+a1_Phase)) with
   |none=>none
   |some y3=>some (a0_N,a0_X ^^^ a1_X,a0_Z ^^^ a1_Z,y3.tmod 4,0)
   else some (0,0#64,0#64,0,130))
   else some (0,0#64,0#64,0,130)))
   else some (0,0#64,0#64,0,130))
def Pref14_times (F:Nat)(a0_N:Int)(a0_X a0_Z:BitVec 64)(a0_Phase a1_N:Int)(a1_X a1_Z:BitVec 64)(a1_Phase:Int):Option (Int×(BitVec 64)×(BitVec 64)×Int):=
  match Pref13_Mul F a0_N a0_X a0_Z a0_Phase a1_N a1_X a1_Z a1_Phase with|none=>none|some (r1,r2,r3,r4,r5)=>some (r1,r2,r3,r4)
def Pref14_signL0 (F:Nat)(v1:Int)(v2 v3:List Pl)(v4:Int)(v5 v6:BitVec 64)(v7:Int):Nat→Int→Int→BitVec 64→BitVec 64→Int→Option (Int×(BitVec 64)×(BitVec 64)×Int)
  |0,_,_,_,_,_=>none
  |f+1,v0,v8,v9,v10,v11=>
   if v0<v1 then match idx v3 v0 with
   |none=>none
   |some x1=>(match Pref14_commute F x1.N x1.X x1.Z x1.Ph v4 v5 v6 v7 with|none=>none|some r2=>(bif r2 then Pref14_signL0 F v1 v2 v3 v4 v5 v6 v7 f (IntKind.i64.wrap (v0+1)) v8 v9 v10 v11
   else match idx v2 v0 with
   |none=>none
   |some x3=>(match Pref14_times F v8 v9 v10 v11 x3.N x3.X x3.Z x3.Ph with|none=>none|some (r4,r5,r6,r7)=>Pref14_signL0 F v1 v2 v3 v4 v5 v6 v7 f (IntKind.i64.wrap (v0+1)) r4 r5 r6 r7)))
   else some (v8,v9,v10,v11)
def Pref14_sign (F:Nat)(a0_N:Int)(a0_Stab a0_Destab:List Pl)(a1_N:Int)(a1_X a1_Z:BitVec 64)(a1_Phase:Int):Option Int:=
  match Pref14_signL0 F a0_N a0_Stab a0_Destab a1_N a1_X a1_Z a1_Phase F 0 a0_N 0#64 0#64 0 with
  |none=>none
  |some (y1,y2,y3,y4)=>(if y4=a1_Phase then some 1
   else some ((-1):Int))
def Pref14_Member (F:Nat)(a0_N:Int)(a0_Stab a0_Destab:List Pl)(a1_N:Int)(a1_X a1_Z:BitVec 64)(a1_Phase:Int):Option (Int×Int):=
  match Pref14_Right F a0_N a0_Stab a0_Destab with|none=>none|some r1=>(bif r1 then (match Pref13_Right F a1_N a1_X a1_Z a1_Phase with|none=>none|some r2=>(bif r2 then (if a1_N=a0_N then if (a1_Phase.tmod 2)=1 then some (0,2)
   else match Pref14_loose F a0_N a0_Stab a0_Destab a1_N a1_X a1_Z a1_Phase with|none=>none|some r3=>(if r3≥0 then some (0,0)
   else match Pref14_sign F a0_N a0_Stab a0_Destab a1_N a1_X a1_Z a1_Phase with|none=>none|some r4=>some (r4,0))
   else some (0,2))
   else some (0,2)))
   else some (0,140))
def Pref14_ForceL0 (F:Nat)(v0 v2:Int)(v3 v4:List Pl)(v5:Int)(v6 v7:BitVec 64)(v8 v9 v10:Int)(v11 v12:List Pl):Nat→Int→Option Unit
  |0,_=>none
  |f+1,v1=>
   if v1<v2 then if v1=v0 then Pref14_ForceL0 F v0 v2 v3 v4 v5 v6 v7 v8 v9 v10 v11 v12 f (IntKind.i64.wrap (v1+1))
   else match idx v3 v1 with
   |none=>none
   |some x1=>(match Pref14_commute F x1.N x1.X x1.Z x1.Ph v5 v6 v7 v8 with|none=>none|some r2=>(bif r2 then (match idx v4 v1 with
   |none=>none
   |some x3=>(match Pref14_commute F x3.N x3.X x3.Z x3.Ph v5 v6 v7 v8 with|none=>none|some r4=>(bif r4 then Pref14_ForceL0 F v0 v2 v3 v4 v5 v6 v7 v8 v9 v10 v11 v12 f (IntKind.i64.wrap (v1+1))
   else match idx v3 v0 with
   |none=>none
   |some x5=>(match Pref14_times F x3.N x3.X x3.Z x3.Ph x5.N x5.X x5.Z x5.Ph with|none=>none|some (r6,r7,r8,r9)=>(match idx v12 v1 with
   |none=>none
   |some x10=>none)))))
   else match idx v3 v0 with
   |none=>none
   |some x11=>(match Pref14_times F x1.N x1.X x1.Z x1.Ph x11.N x11.X x11.Z x11.Ph with|none=>none|some (r12,r13,r14,r15)=>(match idx v11 v1 with
   |none=>none
   |some x16=>none))))
   else some ()
def Pref14_ForceL1 (F:Nat)(v0 v2:Int)(v3 v4:List Pl)(v5:Int)(v6 v7:BitVec 64)(v8 v9 v10:Int)(v11:List Pl):Nat→Int→List Pl→Option (List Pl)
  |0,_,_=>none
  |f+1,v1,v12=>
   if v1<v2 then if v1=v0 then Pref14_ForceL1 F v0 v2 v3 v4 v5 v6 v7 v8 v9 v10 v11 f (IntKind.i64.wrap (v1+1)) v12
   else match idx v3 v1 with
   |none=>none
   |some x1=>(match Pref14_commute F x1.N x1.X x1.Z x1.Ph v5 v6 v7 v8 with|none=>none|some r2=>(bif r2 then (match idx v4 v1 with
   |none=>none
   |some x3=>(match Pref14_commute F x3.N x3.X x3.Z x3.Ph v5 v6 v7 v8 with|none=>none|some r4=>(bif r4 then Pref14_ForceL1 F v0 v2 v3 v4 v5 v6 v7 v8 v9 v10 v11 f (IntKind.i64.wrap (v1+1)) v12
   else match idx v3 v0 with
   |none=>none
   |some x5=>(match Pref14_times F x3.N x3.X x3.Z x3.Ph x5.N x5.X x5.Z x5.Ph with|none=>none|some (r6,r7,r8,r9)=>(match idx v12 v1 with
   |none=>none
   |some x10=>Pref14_ForceL1 F v0 v2 v3 v4 v5 v6 v7 v8 v9 v10 v11 f (IntKind.i64.wrap (v1+1)) ((v12).set v1.toNat (⟨r6,r7,r8,r9⟩:Pl)))))))
   else match idx v3 v0 with
   |none=>none
   |some x11=>(match Pref14_times F x1.N x1.X x1.Z x1.Ph x11.N x11.X x11.Z x11.Ph with|none=>none|some (r12,r13,r14,r15)=>(match idx v11 v1 with
   |none=>none
   |some x16=>none))))
   else some (v12)
theorem lref14_ForceL1n0_0 (F:Nat)(v0 v2:Int)(v3 v4:List Pl)(v5:Int)(v6 v7:BitVec 64)(v8 v9 v10:Int)(v11:List Pl):∀ (f:Nat) (v1:Int) (v12 y0:List Pl),Pref14_ForceL1 F v0 v2 v3 v4 v5 v6 v7 v8 v9 v10 v11 f v1 v12=some (y0)→y0.length=v12.length:=by
 intro f
 induction f with
 |zero=>intro v1 v12 y0 h;simp only [Pref14_ForceL1] at h;cases h
 |succ f ih=>
 intro v1 v12 y0 h
 simp only [Pref14_ForceL1,Bool.cond_eq_ite] at h
 (repeat' split at h)<;>first
 |(cases h;done)
 |(cases h;simp only [List.length_set];done)
 |(cases h;rfl)
 |(have q:=ih _ _ _ h;simpa only [List.length_set] using q)
 |(have q:=ih _ _ _ h;(try simp only [List.length_set] at *);omega)
 |(cases h;(try simp only [List.length_set] at *);omega)
def Pref14_ForceL2 (F:Nat)(v0 v2:Int)(v3 v4:List Pl)(v5:Int)(v6 v7:BitVec 64)(v8 v9 v10:Int)(v11:List Pl):Nat→Int→List Pl→Option (List Pl)
  |0,_,_=>none
  |f+1,v1,v12=>
   if v1<v2 then if v1=v0 then Pref14_ForceL2 F v0 v2 v3 v4 v5 v6 v7 v8 v9 v10 v11 f (IntKind.i64.wrap (v1+1)) v12
   else match idx v3 v1 with
   |none=>none
   |some x1=>(match Pref14_commute F x1.N x1.X x1.Z x1.Ph v5 v6 v7 v8 with|none=>none|some r2=>(bif r2 then (match idx v4 v1 with
   |none=>none
   |some x3=>(match Pref14_commute F x3.N x3.X x3.Z x3.Ph v5 v6 v7 v8 with|none=>none|some r4=>(bif r4 then Pref14_ForceL2 F v0 v2 v3 v4 v5 v6 v7 v8 v9 v10 v11 f (IntKind.i64.wrap (v1+1)) v12
   else match idx v3 v0 with
   |none=>none
   |some x5=>(match Pref14_times F x3.N x3.X x3.Z x3.Ph x5.N x5.X x5.Z x5.Ph with|none=>none|some (r6,r7,r8,r9)=>(match idx v11 v1 with
   |none=>none
   |some x10=>none)))))
   else match idx v3 v0 with
   |none=>none
   |some x11=>(match Pref14_times F x1.N x1.X x1.Z x1.Ph x11.N x11.X x11.Z x11.Ph with|none=>none|some (r12,r13,r14,r15)=>(match idx v12 v1 with
   |none=>none
   |some x16=>(match idx v4 v1 with
   |none=>none
   |some x17=>(match Pref14_commute F x17.N x17.X x17.Z x17.Ph v5 v6 v7 v8 with|none=>none|some r18=>(bif r18 then Pref14_ForceL2 F v0 v2 v3 v4 v5 v6 v7 v8 v9 v10 v11 f (IntKind.i64.wrap (v1+1)) ((v12).set v1.toNat (⟨r12,r13,r14,r15⟩:Pl))
   else match Pref14_times F x17.N x17.X x17.Z x17.Ph x11.N x11.X x11.Z x11.Ph with|none=>none|some (r19,r20,r21,r22)=>(match idx v11 v1 with
   |none=>none
   |some x23=>none))))))))
   else some (v12)
theorem lref14_ForceL2n0_0 (F:Nat)(v0 v2:Int)(v3 v4:List Pl)(v5:Int)(v6 v7:BitVec 64)(v8 v9 v10:Int)(v11:List Pl):∀ (f:Nat) (v1:Int) (v12 y0:List Pl),Pref14_ForceL2 F v0 v2 v3 v4 v5 v6 v7 v8 v9 v10 v11 f v1 v12=some (y0)→y0.length=v12.length:=by
 intro f
 induction f with
 |zero=>intro v1 v12 y0 h;simp only [Pref14_ForceL2] at h;cases h
 |succ f ih=>
 intro v1 v12 y0 h
 simp only [Pref14_ForceL2,Bool.cond_eq_ite] at h
 (repeat' split at h)<;>first
 |(cases h;done)
 |(cases h;simp only [List.length_set];done)
 |(cases h;rfl)
 |(have q:=ih _ _ _ h;simpa only [List.length_set] using q)
 |(have q:=ih _ _ _ h;(try simp only [List.length_set] at *);omega)
 |(cases h;(try simp only [List.length_set] at *);omega)
def Pref14_ForceL3 (F:Nat)(v0 v2:Int)(v3 v4:List Pl)(v5:Int)(v6 v7:BitVec 64)(v8 v9 v10:Int):Nat→Int→List Pl→List Pl→Option ((List Pl)×(List Pl))
  |0,_,_,_=>none
  |f+1,v1,v11,v12=>
   if v1<v2 then if v1=v0 then Pref14_ForceL3 F v0 v2 v3 v4 v5 v6 v7 v8 v9 v10 f (IntKind.i64.wrap (v1+1)) v11 v12
   else match idx v3 v1 with
   |none=>none
   |some x1=>(match Pref14_commute F x1.N x1.X x1.Z x1.Ph v5 v6 v7 v8 with|none=>none|some r2=>(bif r2 then (match idx v4 v1 with
   |none=>none
   |some x3=>(match Pref14_commute F x3.N x3.X x3.Z x3.Ph v5 v6 v7 v8 with|none=>none|some r4=>(bif r4 then Pref14_ForceL3 F v0 v2 v3 v4 v5 v6 v7 v8 v9 v10 f (IntKind.i64.wrap (v1+1)) v11 v12
   else match idx v3 v0 with
   |none=>none
   |some x5=>(match Pref14_times F x3.N x3.X x3.Z x3.Ph x5.N x5.X x5.Z x5.Ph with|none=>none|some (r6,r7,r8,r9)=>(match idx v12 v1 with
   |none=>none
   |some x10=>Pref14_ForceL3 F v0 v2 v3 v4 v5 v6 v7 v8 v9 v10 f (IntKind.i64.wrap (v1+1)) v11 ((v12).set v1.toNat (⟨r6,r7,r8,r9⟩:Pl)))))))
   else match idx v3 v0 with
   |none=>none
   |some x11=>(match Pref14_times F x1.N x1.X x1.Z x1.Ph x11.N x11.X x11.Z x11.Ph with|none=>none|some (r12,r13,r14,r15)=>(match idx v11 v1 with
   |none=>none
   |some x16=>(match idx v4 v1 with
   |none=>none
   |some x17=>(match Pref14_commute F x17.N x17.X x17.Z x17.Ph v5 v6 v7 v8 with|none=>none|some r18=>(bif r18 then Pref14_ForceL3 F v0 v2 v3 v4 v5 v6 v7 v8 v9 v10 f (IntKind.i64.wrap (v1+1)) ((v11).set v1.toNat (⟨r12,r13,r14,r15⟩:Pl)) v12
   else match Pref14_times F x17.N x17.X x17.Z x17.Ph x11.N x11.X x11.Z x11.Ph with|none=>none|some (r19,r20,r21,r22)=>(match idx v12 v1 with
   |none=>none
   |some x23=>Pref14_ForceL3 F v0 v2 v3 v4 v5 v6 v7 v8 v9 v10 f (IntKind.i64.wrap (v1+1)) ((v11).set v1.toNat (⟨r12,r13,r14,r15⟩:Pl)) ((v12).set v1.toNat (⟨r19,r20,r21,r22⟩:Pl))))))))))
   else some (v11,v12)
theorem lref14_ForceL3n0_0 (F:Nat)(v0 v2:Int)(v3 v4:List Pl)(v5:Int)(v6 v7:BitVec 64)(v8 v9 v10:Int):∀ (f:Nat) (v1:Int) (v11 v12 y0 y1:List Pl),Pref14_ForceL3 F v0 v2 v3 v4 v5 v6 v7 v8 v9 v10 f v1 v11 v12=some (y0,y1)→y0.length=v11.length:=by
 intro f
 induction f with
 |zero=>intro v1 v11 v12 y0 y1 h;simp only [Pref14_ForceL3] at h;cases h
 |succ f ih=>
 intro v1 v11 v12 y0 y1 h
 simp only [Pref14_ForceL3,Bool.cond_eq_ite] at h
 (repeat' split at h)<;>first
 |(cases h;done)
 |(cases h;simp only [List.length_set];done)
 |(cases h;rfl)
 |(have q:=ih _ _ _ _ _ h;simpa only [List.length_set] using q)
 |(have q:=ih _ _ _ _ _ h;(try simp only [List.length_set] at *);omega)
 |(cases h;(try simp only [List.length_set] at *);omega)
theorem lref14_ForceL3n0_1 (F:Nat)(v0 v2:Int)(v3 v4:List Pl)(v5:Int)(v6 v7:BitVec 64)(v8 v9 v10:Int):∀ (f:Nat) (v1:Int) (v11 v12 y0 y1:List Pl),Pref14_ForceL3 F v0 v2 v3 v4 v5 v6 v7 v8 v9 v10 f v1 v11 v12=some (y0,y1)→y1.length=v12.length:=by
 intro f
 induction f with
 |zero=>intro v1 v11 v12 y0 y1 h;simp only [Pref14_ForceL3] at h;cases h
 |succ f ih=>
 intro v1 v11 v12 y0 y1 h
 simp only [Pref14_ForceL3,Bool.cond_eq_ite] at h
 (repeat' split at h)<;>first
 |(cases h;done)
 |(cases h;simp only [List.length_set];done)
 |(cases h;rfl)
 |(have q:=ih _ _ _ _ _ h;simpa only [List.length_set] using q)
 |(have q:=ih _ _ _ _ _ h;(try simp only [List.length_set] at *);omega)
 |(cases h;(try simp only [List.length_set] at *);omega)
def Pref14_Force (F:Nat)(a0_N:Int)(a0_Stab a0_Destab:List Pl)(a1_N:Int)(a1_X a1_Z:BitVec 64)(a1_Phase:Int):Option (Int×(List Pl)×(List Pl)×Int×Int):=
  match Pref14_Member F a0_N a0_Stab a0_Destab a1_N a1_X a1_Z a1_Phase with|none=>none|some (r1,r2)=>(if r2=0 then if r1<0 then some (0,[],[],0,142)
   else match Pref14_Copy a0_N a0_Stab a0_Destab with|none=>none|some (r3,r4,r5)=>(if r4=[] then if r5=[] then if r1>0 then some (r3,[],[],0,0)
   else match Pref14_loose F a0_N a0_Stab a0_Destab a1_N a1_X a1_Z a1_Phase with|none=>none|some r6=>(match Pref14_ForceL0 F r6 a0_N a0_Stab a0_Destab a1_N a1_X a1_Z a1_Phase 0 r3 ([]) ([]) F 0 with|none=>none|some _=>(match idx a0_Stab r6 with
   |none=>none
   |some x7=>none))
   else if r1>0 then some (r3,[],r5,0,0)
   else match Pref14_loose F a0_N a0_Stab a0_Destab a1_N a1_X a1_Z a1_Phase with|none=>none|some r8=>(match Pref14_ForceL1 F r8 a0_N a0_Stab a0_Destab a1_N a1_X a1_Z a1_Phase 0 r3 ([]) F 0 r5 with
   |none=>none
   |some y9=>(match idx a0_Stab r8 with
   |none=>none
   |some x10=>(match idx y9 r8 with
   |none=>none
   |some x11=>none)))
   else if r5=[] then if r1>0 then some (r3,r4,[],0,0)
   else match Pref14_loose F a0_N a0_Stab a0_Destab a1_N a1_X a1_Z a1_Phase with|none=>none|some r12=>(match Pref14_ForceL2 F r12 a0_N a0_Stab a0_Destab a1_N a1_X a1_Z a1_Phase 0 r3 ([]) F 0 r4 with
   |none=>none
   |some y13=>(match idx a0_Stab r12 with
   |none=>none
   |some x14=>none))
   else if r1>0 then some (r3,r4,r5,0,0)
   else match Pref14_loose F a0_N a0_Stab a0_Destab a1_N a1_X a1_Z a1_Phase with|none=>none|some r15=>(match Pref14_ForceL3 F r15 a0_N a0_Stab a0_Destab a1_N a1_X a1_Z a1_Phase 0 r3 F 0 r4 r5 with
   |none=>none
   |some (y16,y17)=>(match idx a0_Stab r15 with
   |none=>none
   |some x18=>(match idx y17 r15 with
   |none=>none
   |some x19=>(match idx y16 r15 with
   |none=>none
   |some x20=>some (r3,(y16).set r15.toNat (⟨a1_N,a1_X,a1_Z,a1_Phase⟩:Pl),(y17).set r15.toNat x18,1,0))))))
   else some (0,[],[],0,r2))
def Ptb_OverlapL0 (F:Nat)(v1:List Pl)(v2:Int):Nat→Int→Int→Int→List Pl→List Pl→Option (Int⊕(Int))
  |0,_,_,_,_,_=>none
  |f+1,v0,v3,v4,v5,v6=>
   if v3<v2 then match idx v1 v3 with
   |none=>none
   |some x1=>(match Ptb_Force F v4 v5 v6 x1.N x1.X x1.Z x1.Ph with|none=>none|some (r2,r3,r4,r5,r6)=>(if r6=0 then Ptb_OverlapL0 F v1 v2 f (IntKind.i64.wrap (v0+r5)) (IntKind.i64.wrap (v3+1)) r2 r3 r4
   else some (.inl ((-1):Int))))
   else some (.inr v0)
def Ptb_Overlap (F:Nat)(a0_N:Int)(a0_Stab a0_Destab:List Pl)(a1_N:Int)(a1_Stab a1_Destab:List Pl):Option (Int×Int):=
  match Ptb_Check F a0_N a0_Stab a0_Destab with|none=>none|some r1=>(if r1=0 then match Ptb_Check F a1_N a1_Stab a1_Destab with|none=>none|some r2=>(if r2=0 then if a0_N=a1_N then match Ptb_OverlapL0 F a1_Stab (a1_Stab.length:Int) F 0 0 a0_N a0_Stab a0_Destab with
   |none=>none
   |some (.inl y3)=>some (y3,0)
   |some (.inr y4)=>some (y4,0)
   else some (0,2)
   else some (0,140))
   else some (0,140))
def Pref14_OverlapL0 (F:Nat)(v5:Int)(v6 v7:List Pl):Nat→Int→Int→Int→List Pl→List Pl→Option (Int⊕(Int))
  |0,_,_,_,_,_=>none
  |f+1,v0,v1,v2,v3,v4=>
   if v1<v5 then match idx v6 v1 with
   |none=>none
   |some x1=>(match Pref14_Force F v2 v3 v4 x1.N x1.X x1.Z x1.Ph with|none=>none|some (r2,r3,r4,r5,r6)=>(if r6=142 then some (.inl ((-1):Int))
   else Pref14_OverlapL0 F v5 v6 v7 f (IntKind.i64.wrap (v0+r5)) (IntKind.i64.wrap (v1+1)) r2 r3 r4))
   else some (.inr v0)
def Pref14_Overlap (F:Nat)(a0_N:Int)(a0_Stab a0_Destab:List Pl)(a1_N:Int)(a1_Stab a1_Destab:List Pl):Option (Int×Int):=
  match Pref14_Right F a0_N a0_Stab a0_Destab with|none=>none|some r1=>(bif r1 then (match Pref14_Right F a1_N a1_Stab a1_Destab with|none=>none|some r2=>(bif r2 then (if a0_N=a1_N then match Pref14_OverlapL0 F a1_N a1_Stab a1_Destab F 0 0 a0_N a0_Stab a0_Destab with
   |none=>none
   |some (.inl y3)=>some (y3,0)
   |some (.inr y4)=>some (y4,0)
   else some (0,2))
   else some (0,140)))
   else some (0,140))
def Plaw14_TableauForces (F:Nat)(a0_N:Int)(a0_Stab a0_Destab:List Pl)(a1_N:Int)(a1_X a1_Z:BitVec 64)(a1_Phase a2_N:Int)(a2_Stab a2_Destab:List Pl):Option Bool:=
  match Pref14_Copy a0_N a0_Stab a0_Destab with|none=>none|some (r1,r2,r3)=>(match Pref14_Copy a2_N a2_Stab a2_Destab with|none=>none|some (r4,r5,r6)=>(match Ptb_Force F r1 r2 r3 a1_N a1_X a1_Z a1_Phase with|none=>none|some (r7,r8,r9,r10,r11)=>(match Pref14_Force F a0_N a0_Stab a0_Destab a1_N a1_X a1_Z a1_Phase with|none=>none|some (r12,r13,r14,r15,r16)=>(match Ptb_Overlap F r1 r2 r3 r4 r5 r6 with|none=>none|some (r17,r18)=>(match Pref14_Overlap F a0_N a0_Stab a0_Destab a2_N a2_Stab a2_Destab with|none=>none|some (r19,r20)=>(match Pref14_Alike F r7 r8 r9 r12 r13 r14 with|none=>none|some r21=>(bif r21 then (if r10=r15 then if (Plaw14_num r11)=r16 then if r17=r19 then if (Plaw14_num r18)=r20 then match Pref14_Alike F r1 r2 r3 a0_N a0_Stab a0_Destab with|none=>none|some r22=>(bif r22 then (match Pref14_Alike F r4 r5 r6 a2_N a2_Stab a2_Destab with|none=>none|some r23=>(bif r23 then some true
   else some false))
   else some false)
   else some false
   else some false
   else some false
   else some false)
   else some false)))))))
def Pref06_Is (a0:Int):Bool:=
  if a0≥1 then decide (a0≤20)
  else false
def Pref06_Arity (a0:Int):Int:=
  bif (Pref06_Is a0) then (if a0≤10 then 1
   else if a0≤17 then 2
   else 3)
  else 0
def Pref06_CheckL0 (v0:List Int)(v1 v2:Int):Nat→Int→Option (Unit⊕(Unit))
  |0,_=>none
  |f+1,v3=>
   if v3<v2 then match idx v0 v2 with
   |none=>none
   |some x1=>(match idx v0 v3 with
   |none=>none
   |some x2=>(if x1=x2 then some (.inl ())
   else Pref06_CheckL0 v0 v1 v2 f (IntKind.i64.wrap (v3+1))))
   else some (.inr ())
def Pref06_CheckL1 (F:Nat)(v0:List Int)(v1:Int):Nat→Int→Option (Unit⊕(Unit))
  |0,_=>none
  |f+1,v2=>
   if v2<(v0.length:Int) then match idx v0 v2 with
   |none=>none
   |some x1=>(if x1<0 then some (.inl ())
   else if x1≥v1 then some (.inl ())
   else match Pref06_CheckL0 v0 v1 v2 F 0 with
   |none=>none
   |some (.inl _)=>some (.inl ())
   |some (.inr _)=>Pref06_CheckL1 F v0 v1 f (IntKind.i64.wrap (v2+1)))
   else some (.inr ())
def Pref06_Check (F:Nat)(a0:Int)(a1:List Int)(a2:Int):Option Int:=
  bif (Pref06_Is a0) then (if (a1.length:Int)=(Pref06_Arity a0) then match Pref06_CheckL1 F a1 a2 F 0 with
   |none=>none
   |some (.inl _)=>some 61
   |some (.inr _)=>some 0
   else some 61)
  else some 60
def Pref06_Clifford (a0:Int):Bool:=
  if a0≥1 then decide (a0≤17)
  else false
def Pref13_images (a0:Int):List ByteArray:=
  if a0=1 then [((⟨#[43,88]⟩:ByteArray)),((⟨#[43,90]⟩:ByteArray))]
  else if a0=2 then [((⟨#[43,88]⟩:ByteArray)),((⟨#[45,90]⟩:ByteArray))]
   else if a0=3 then [((⟨#[45,88]⟩:ByteArray)),((⟨#[45,90]⟩:ByteArray))]
   else if a0=4 then [((⟨#[45,88]⟩:ByteArray)),((⟨#[43,90]⟩:ByteArray))]
   else if a0=5 then [((⟨#[43,89]⟩:ByteArray)),((⟨#[43,90]⟩:ByteArray))]
   else if a0=6 then [((⟨#[45,89]⟩:ByteArray)),((⟨#[43,90]⟩:ByteArray))]
   else if a0=7 then [((⟨#[43,88]⟩:ByteArray)),((⟨#[45,89]⟩:ByteArray))]
   else if a0=8 then [((⟨#[43,88]⟩:ByteArray)),((⟨#[43,89]⟩:ByteArray))]
   else if a0=9 then [((⟨#[45,90]⟩:ByteArray)),((⟨#[43,88]⟩:ByteArray))]
   else if a0=10 then [((⟨#[43,90]⟩:ByteArray)),((⟨#[45,88]⟩:ByteArray))]
   else if a0=11 then [((⟨#[43,88,88]⟩:ByteArray)),((⟨#[43,90,73]⟩:ByteArray)),((⟨#[43,73,88]⟩:ByteArray)),((⟨#[43,90,90]⟩:ByteArray))]
   else if a0=12 then [((⟨#[43,88,89]⟩:ByteArray)),((⟨#[43,90,73]⟩:ByteArray)),((⟨#[43,90,88]⟩:ByteArray)),((⟨#[43,90,90]⟩:ByteArray))]
   else if a0=13 then [((⟨#[43,88,90]⟩:ByteArray)),((⟨#[43,90,73]⟩:ByteArray)),((⟨#[43,90,88]⟩:ByteArray)),((⟨#[43,73,90]⟩:ByteArray))]
   else if a0=14 then [((⟨#[43,73,88]⟩:ByteArray)),((⟨#[43,73,90]⟩:ByteArray)),((⟨#[43,88,73]⟩:ByteArray)),((⟨#[43,90,73]⟩:ByteArray))]
   else if a0=15 then [((⟨#[43,90,89]⟩:ByteArray)),((⟨#[43,73,90]⟩:ByteArray)),((⟨#[43,89,90]⟩:ByteArray)),((⟨#[43,90,73]⟩:ByteArray))]
   else if a0=16 then [((⟨#[45,90,89]⟩:ByteArray)),((⟨#[43,73,90]⟩:ByteArray)),((⟨#[45,89,90]⟩:ByteArray)),((⟨#[43,90,73]⟩:ByteArray))]
   else if a0=17 then [((⟨#[43,90,73]⟩:ByteArray)),((⟨#[43,88,73]⟩:ByteArray)),((⟨#[43,73,90]⟩:ByteArray)),((⟨#[43,73,88]⟩:ByteArray))]
   else []
def Pref13_ThroughL0 (v0:List Int)(v1:List ByteArray)(v3:Int)(v4 v5:BitVec 64)(v6 v7:Int)(v8 v9:BitVec 64)(v10 v11 v14:Int):Nat→Int→BitVec 64→BitVec 64→Option ((BitVec 64)×(BitVec 64))
  |0,_,_,_=>none
  |f+1,v2,v12,v13=>
   if v2<(v0.length:Int) then match idx v0 v2 with
   |none=>none
   |some x1=>Pref13_ThroughL0 v0 v1 v3 v4 v5 v6 v7 v8 v9 v10 v11 v14 f (IntKind.i64.wrap (v2+1)) (v12 &&& ~~~(1#64 <<< ((BitVec.ofInt 64 x1)).toNat)) (v13 &&& ~~~(1#64 <<< ((BitVec.ofInt 64 x1)).toNat))
   else some (v12,v13)
def Pref13_lettersL0 (v0:ByteArray)(v1:List Int)(v3:Int)(v4 v5:BitVec 64)(v6 v7 v10:Int):Nat→Int→BitVec 64→BitVec 64→Option ((BitVec 64)×(BitVec 64))
  |0,_,_,_=>none
  |f+1,v2,v8,v9=>
   if v2<(v1.length:Int) then match bidx v0 (IntKind.i64.wrap (v2+1)) with
   |none=>none
   |some x1=>(if x1=88 then match idx v1 v2 with
   |none=>none
   |some x2=>(if x1=90 then Pref13_lettersL0 v0 v1 v3 v4 v5 v6 v7 v10 f (IntKind.i64.wrap (v2+1)) (v8 ||| (1#64 <<< ((BitVec.ofInt 64 x2)).toNat)) (v9 ||| (1#64 <<< ((BitVec.ofInt 64 x2)).toNat))
   else if x1=89 then Pref13_lettersL0 v0 v1 v3 v4 v5 v6 v7 v10 f (IntKind.i64.wrap (v2+1)) (v8 ||| (1#64 <<< ((BitVec.ofInt 64 x2)).toNat)) (v9 ||| (1#64 <<< ((BitVec.ofInt 64 x2)).toNat))
   else Pref13_lettersL0 v0 v1 v3 v4 v5 v6 v7 v10 f (IntKind.i64.wrap (v2+1)) (v8 ||| (1#64 <<< ((BitVec.ofInt 64 x2)).toNat)) v9)
   else if x1=89 then match idx v1 v2 with
   |none=>none
   |some x3=>(if x1=90 then Pref13_lettersL0 v0 v1 v3 v4 v5 v6 v7 v10 f (IntKind.i64.wrap (v2+1)) (v8 ||| (1#64 <<< ((BitVec.ofInt 64 x3)).toNat)) (v9 ||| (1#64 <<< ((BitVec.ofInt 64 x3)).toNat))
   else Pref13_lettersL0 v0 v1 v3 v4 v5 v6 v7 v10 f (IntKind.i64.wrap (v2+1)) (v8 ||| (1#64 <<< ((BitVec.ofInt 64 x3)).toNat)) (v9 ||| (1#64 <<< ((BitVec.ofInt 64 x3)).toNat)))
   else if x1=90 then match idx v1 v2 with
   |none=>none
   |some x4=>Pref13_lettersL0 v0 v1 v3 v4 v5 v6 v7 v10 f (IntKind.i64.wrap (v2+1)) v8 (v9 ||| (1#64 <<< ((BitVec.ofInt 64 x4)).toNat))
   else Pref13_lettersL0 v0 v1 v3 v4 v5 v6 v7 v10 f (IntKind.i64.wrap (v2+1)) v8 v9)
   else some (v8,v9)
def Pref13_letters (F:Nat)(a0:ByteArray)(a1:Int)(a2:List Int):Option (Int×(BitVec 64)×(BitVec 64)×Int):=
  match bidx a0 0 with
  |none=>none
  |some x1=>(if x1=45 then match Pref13_lettersL0 a0 a2 0 0#64 0#64 0 a1 2 F 0 0#64 0#64 with
   |none=>none
   |some (y2,y3)=>some (a1,y2,y3,2)
   else match Pref13_lettersL0 a0 a2 0 0#64 0#64 0 a1 0 F 0 0#64 0#64 with
   |none=>none
   |some (y4,y5)=>some (a1,y4,y5,0))
def Pref13_ThroughL1 (F:Nat)(v0:List Int)(v1:List ByteArray)(v3:Int)(v4 v5:BitVec 64)(v6 v7:Int)(v8 v9:BitVec 64)(v10:Int):Nat→Int→Int→BitVec 64→BitVec 64→Int→Option (Int×(BitVec 64)×(BitVec 64)×Int)
  |0,_,_,_,_,_=>none
  |f+1,v2,v11,v12,v13,v14=>
   if v2<(v0.length:Int) then match idx v0 v2 with
   |none=>none
   |some x1=>(if (Pref13_bit v4 x1)=1 then match idx v1 (IntKind.i64.wrap (2*v2)) with
   |none=>none
   |some x2=>(match Pref13_letters F x2 v3 v0 with|none=>none|some (r3,r4,r5,r6)=>(match Pref13_Mul F v11 v12 v13 v14 r3 r4 r5 r6 with|none=>none|some (r7,r8,r9,r10,r11)=>(if (Pref13_bit v5 x1)=1 then match idx v1 (IntKind.i64.wrap ((IntKind.i64.wrap (2*v2))+1)) with
   |none=>none
   |some x12=>(match Pref13_letters F x12 v3 v0 with|none=>none|some (r13,r14,r15,r16)=>(match Pref13_Mul F r7 r8 r9 r10 r13 r14 r15 r16 with|none=>none|some (r17,r18,r19,r20,r21)=>Pref13_ThroughL1 F v0 v1 v3 v4 v5 v6 v7 v8 v9 v10 f (IntKind.i64.wrap (v2+1)) r17 r18 r19 ((IntKind.i64.wrap (r20+1)).tmod 4)))
   else Pref13_ThroughL1 F v0 v1 v3 v4 v5 v6 v7 v8 v9 v10 f (IntKind.i64.wrap (v2+1)) r7 r8 r9 r10)))
   else if (Pref13_bit v5 x1)=1 then match idx v1 (IntKind.i64.wrap ((IntKind.i64.wrap (2*v2))+1)) with
   |none=>none
   |some x22=>(match Pref13_letters F x22 v3 v0 with|none=>none|some (r23,r24,r25,r26)=>(match Pref13_Mul F v11 v12 v13 v14 r23 r24 r25 r26 with|none=>none|some (r27,r28,r29,r30,r31)=>Pref13_ThroughL1 F v0 v1 v3 v4 v5 v6 v7 v8 v9 v10 f (IntKind.i64.wrap (v2+1)) r27 r28 r29 r30))
   else Pref13_ThroughL1 F v0 v1 v3 v4 v5 v6 v7 v8 v9 v10 f (IntKind.i64.wrap (v2+1)) v11 v12 v13 v14)
   else some (v11,v12,v13,v14)
def Pref13_Through (F:Nat)(a0_N:Int)(a0_X a0_Z:BitVec 64)(a0_Phase a1:Int)(a2:List Int):Option (Int×(BitVec 64)×(BitVec 64)×Int×Int):=
  match Pref13_Right F a0_N a0_X a0_Z a0_Phase with|none=>none|some r1=>(bif r1 then (if ((((Pref13_images a1)).length:Int))=0 then some (0,0#64,0#64,0,130)
   else match Pref06_Check F a1 a2 a0_N with|none=>none|some r2=>(if r2=0 then match Pref13_ThroughL0 a2 (Pref13_images a1) a0_N a0_X a0_Z a0_Phase 0 0#64 0#64 0 a0_N a0_Phase F 0 a0_X a0_Z with
   |none=>none
   |some (y3,y4)=>(match Pref13_ThroughL1 F a2 (Pref13_images a1) a0_N a0_X a0_Z a0_Phase 0 0#64 0#64 0 F 0 a0_N y3 y4 a0_Phase with
   |none=>none
   |some (y5,y6,y7,y8)=>some (y5,y6,y7,y8,0))
   else some (0,0#64,0#64,0,130)))
   else some (0,0#64,0#64,0,130))
def Pref14_GateL0 (F:Nat)(v0:Int)(v1:List Int)(v2 v3:Int)(v4 v5:List Pl)(v6 v7:Int)(v8 v9:List Pl):Nat→Option Unit
  |0=>none
  |f+1=>
   if v2<v3 then match idx v4 v2 with
   |none=>none
   |some x1=>(match Pref13_Through F x1.N x1.X x1.Z x1.Ph v0 v1 with|none=>none|some (r2,r3,r4,r5,r6)=>(match idx v8 v2 with
   |none=>none
   |some x7=>none))
   else some ()
def Pref14_GateL1 (F:Nat)(v0:Int)(v1:List Int)(v2 v3:Int)(v4 v5:List Pl)(v6 v7:Int)(v8 v9:List Pl):Nat→Option Unit
  |0=>none
  |f+1=>
   if v2<v3 then match idx v4 v2 with
   |none=>none
   |some x1=>(match Pref13_Through F x1.N x1.X x1.Z x1.Ph v0 v1 with|none=>none|some (r2,r3,r4,r5,r6)=>(match idx v8 v2 with
   |none=>none
   |some x7=>none))
   else some ()
def Pref14_GateL2 (F:Nat)(v0:Int)(v1:List Int)(v2 v3:Int)(v4 v5:List Pl)(v6 v7:Int)(v8 v9:List Pl):Nat→Option Unit
  |0=>none
  |f+1=>
   if v2<v3 then match idx v4 v2 with
   |none=>none
   |some x1=>(match Pref13_Through F x1.N x1.X x1.Z x1.Ph v0 v1 with|none=>none|some (r2,r3,r4,r5,r6)=>(match idx v9 v2 with
   |none=>none
   |some x7=>(match idx v5 v2 with
   |none=>none
   |some x8=>(match Pref13_Through F x8.N x8.X x8.Z x8.Ph v0 v1 with|none=>none|some (r9,r10,r11,r12,r13)=>(match idx v8 v2 with
   |none=>none
   |some x14=>none)))))
   else some ()
def Pref14_GateL3 (F:Nat)(v0:Int)(v1:List Int)(v3:Int)(v4 v5:List Pl)(v6 v7:Int):Nat→Int→List Pl→List Pl→Option ((List Pl)×(List Pl))
  |0,_,_,_=>none
  |f+1,v2,v8,v9=>
   if v2<v3 then match idx v4 v2 with
   |none=>none
   |some x1=>(match Pref13_Through F x1.N x1.X x1.Z x1.Ph v0 v1 with|none=>none|some (r2,r3,r4,r5,r6)=>(match idx v8 v2 with
   |none=>none
   |some x7=>(match idx v5 v2 with
   |none=>none
   |some x8=>(match Pref13_Through F x8.N x8.X x8.Z x8.Ph v0 v1 with|none=>none|some (r9,r10,r11,r12,r13)=>(match idx v9 v2 with
   |none=>none
   |some x14=>Pref14_GateL3 F v0 v1 v3 v4 v5 v6 v7 f (IntKind.i64.wrap (v2+1)) ((v8).set v2.toNat (⟨r2,r3,r4,r5⟩:Pl)) ((v9).set v2.toNat (⟨r9,r10,r11,r12⟩:Pl)))))))
   else some (v8,v9)
theorem lref14_GateL3n0_0 (F:Nat)(v0:Int)(v1:List Int)(v3:Int)(v4 v5:List Pl)(v6 v7:Int):∀ (f:Nat) (v2:Int) (v8 v9 y0 y1:List Pl),Pref14_GateL3 F v0 v1 v3 v4 v5 v6 v7 f v2 v8 v9=some (y0,y1)→y0.length=v8.length:=by
 intro f
 induction f with
 |zero=>intro v2 v8 v9 y0 y1 h;simp only [Pref14_GateL3] at h;cases h
 |succ f ih=>
 intro v2 v8 v9 y0 y1 h
 simp only [Pref14_GateL3,Bool.cond_eq_ite] at h
 (repeat' split at h)<;>first
 |(cases h;done)
 |(cases h;simp only [List.length_set];done)
 |(cases h;rfl)
 |(have q:=ih _ _ _ _ _ h;simpa only [List.length_set] using q)
 |(have q:=ih _ _ _ _ _ h;(try simp only [List.length_set] at *);omega)
 |(cases h;(try simp only [List.length_set] at *);omega)
theorem lref14_GateL3n0_1 (F:Nat)(v0:Int)(v1:List Int)(v3:Int)(v4 v5:List Pl)(v6 v7:Int):∀ (f:Nat) (v2:Int) (v8 v9 y0 y1:List Pl),Pref14_GateL3 F v0 v1 v3 v4 v5 v6 v7 f v2 v8 v9=some (y0,y1)→y1.length=v9.length:=by
 intro f
 induction f with
 |zero=>intro v2 v8 v9 y0 y1 h;simp only [Pref14_GateL3] at h;cases h
 |succ f ih=>
 intro v2 v8 v9 y0 y1 h
 simp only [Pref14_GateL3,Bool.cond_eq_ite] at h
 (repeat' split at h)<;>first
 |(cases h;done)
 |(cases h;simp only [List.length_set];done)
 |(cases h;rfl)
 |(have q:=ih _ _ _ _ _ h;simpa only [List.length_set] using q)
 |(have q:=ih _ _ _ _ _ h;(try simp only [List.length_set] at *);omega)
 |(cases h;(try simp only [List.length_set] at *);omega)
def Pref14_Gate (F:Nat)(a0_N:Int)(a0_Stab a0_Destab:List Pl)(a1:Int)(a2:List Int):Option (Int×(List Pl)×(List Pl)×Int):=
  match Pref14_Right F a0_N a0_Stab a0_Destab with|none=>none|some r1=>(bif r1 then (match Pref06_Check F a1 a2 a0_N with|none=>none|some r2=>(if r2=0 then bif (Pref06_Clifford a1) then (match Pref14_Copy a0_N a0_Stab a0_Destab with|none=>none|some (r3,r4,r5)=>(if r4=[] then if r5=[] then match Pref14_GateL0 F a1 a2 0 a0_N a0_Stab a0_Destab 0 r3 ([]) ([]) F with|none=>none|some _=>some (r3,[],[],0)
   else match Pref14_GateL1 F a1 a2 0 a0_N a0_Stab a0_Destab 0 r3 ([]) r5 F with|none=>none|some _=>some (r3,[],r5,0)
   else if r5=[] then match Pref14_GateL2 F a1 a2 0 a0_N a0_Stab a0_Destab 0 r3 ([]) r4 F with|none=>none|some _=>some (r3,r4,[],0)
   else match Pref14_GateL3 F a1 a2 a0_N a0_Stab a0_Destab 0 r3 F 0 r4 r5 with
   |none=>none
   |some (y6,y7)=>some (r3,y6,y7,0)))
   else some (0,[],[],141)
   else some (0,[],[],r2)))
   else some (0,[],[],140))
def Plaw14_first (a0:List Int):Option Int:=
  if (a0.length:Int)=0 then some ((-1):Int)
  else match idx a0 (0) with
   |none=>none
   |some x1=>some x1
def Ptb_asked (F:Nat)(a0_N:Int)(a0_Stab a0_Destab:List Pl)(a1:Int):Option Int:=
  match Ptb_Check F a0_N a0_Stab a0_Destab with|none=>none|some r1=>(if r1=0 then if a1<0 then some 2
   else if a1≥a0_N then some 2
   else some 0
   else some r1)
def Ptb_openL0 (v0:List Pl)(v1 v2:Int):Nat→Int→Option (Int⊕(Unit))
  |0,_=>none
  |f+1,v3=>
   if v3<v2 then match idx v0 v3 with
   |none=>none
   |some x1=>(if v1<0 then none
   else if ((x1.X >>> v1.toNat) &&& 1#64)=1#64 then some (.inl v3)
   else Ptb_openL0 v0 v1 v2 f (IntKind.i64.wrap (v3+1)))
   else some (.inr ())
def Ptb_open (F:Nat)(a0_N:Int)(a0_Stab a0_Destab:List Pl)(a1:Int):Option Int:=
  match Ptb_openL0 a0_Stab a1 (a0_Stab.length:Int) F 0 with
  |none=>none
  |some (.inl y1)=>some y1
  |some (.inr _)=>some ((-1):Int)
def Ptb_Odds (F:Nat)(a0_N:Int)(a0_Stab a0_Destab:List Pl)(a1:Int):Option (Int×Int):=
  match Ptb_asked F a0_N a0_Stab a0_Destab a1 with|none=>none|some r1=>(if r1=0 then match Ptb_open F a0_N a0_Stab a0_Destab a1 with|none=>none|some r2=>(if r2≥0 then some (2,0)
   else if a1<0 then none
   else match Ptb_sure F a0_N a0_Stab a0_Destab a0_N 0#64 (1#64 <<< a1.toNat) 0 with|none=>none|some (r3,r4,r5,r6)=>some (IntKind.i64.wrap (r6.tdiv 2),0))
   else some (0,r1))
def Ptb_Project (F:Nat)(a0_N:Int)(a0_Stab a0_Destab:List Pl)(a1 a2:Int):Option (Int×(List Pl)×(List Pl)×Int):=
  match Ptb_Odds F a0_N a0_Stab a0_Destab a1 with|none=>none|some (r1,r2)=>(if r2=0 then if a2=0 then if r1=(IntKind.i64.wrap (1-a2)) then some (0,[],[],142)
   else if r1=a2 then match Ptb_copied a0_N a0_Stab a0_Destab with|none=>none|some (r3,r4,r5)=>some (r3,r4,r5,0)
   else match Ptb_open F a0_N a0_Stab a0_Destab a1 with|none=>none|some r6=>(if a1<0 then none
   else match Ptb_replaced F a0_N a0_Stab a0_Destab r6 a0_N 0#64 (1#64 <<< a1.toNat) (IntKind.i64.wrap (2*a2)) with|none=>none|some (r7,r8,r9)=>some (r7,r8,r9,0))
   else if a2=1 then if r1=(IntKind.i64.wrap (1-a2)) then some (0,[],[],142)
   else if r1=a2 then match Ptb_copied a0_N a0_Stab a0_Destab with|none=>none|some (r10,r11,r12)=>some (r10,r11,r12,0)
   else match Ptb_open F a0_N a0_Stab a0_Destab a1 with|none=>none|some r13=>(if a1<0 then none
   else match Ptb_replaced F a0_N a0_Stab a0_Destab r13 a0_N 0#64 (1#64 <<< a1.toNat) (IntKind.i64.wrap (2*a2)) with|none=>none|some (r14,r15,r16)=>some (r14,r15,r16,0))
   else some (0,[],[],2)
   else some (0,[],[],r2))
def Pref14_letter (a0 a1:Int)(a2:Bool):Int×(BitVec 64)×(BitVec 64)×Int:=
  bif a2 then (a0,1#64 <<< ((BitVec.ofInt 64 a1)).toNat,0#64,0)
  else (a0,0#64,1#64 <<< ((BitVec.ofInt 64 a1)).toNat,0)
def Pref14_Odds (F:Nat)(a0_N:Int)(a0_Stab a0_Destab:List Pl)(a1:Int):Option (Int×Int):=
  match Pref14_Right F a0_N a0_Stab a0_Destab with|none=>none|some r1=>(bif r1 then (if a1<0 then some (0,2)
   else if a1≥a0_N then some (0,2)
   else match Pref14_letter a0_N a1 false with
   |(r2,r3,r4,r5)=>(match Pref14_loose F a0_N a0_Stab a0_Destab r2 r3 r4 r5 with|none=>none|some r6=>(if r6≥0 then some (2,0)
   else match Pref14_sign F a0_N a0_Stab a0_Destab r2 r3 r4 r5 with|none=>none|some r7=>(if r7<0 then some (1,0)
   else some (0,0)))))
   else some (0,140))
def Pref14_ProjectL0 (F:Nat)(v0 v1 v3:Int)(v4 v5:List Pl)(v6 v7:Int)(v8 v9:List Pl)(v10:Int)(v11 v12:BitVec 64)(v13:Int):Nat→Int→Option Unit
  |0,_=>none
  |f+1,v2=>
   if v2<v3 then if v2=v1 then Pref14_ProjectL0 F v0 v1 v3 v4 v5 v6 v7 v8 v9 v10 v11 v12 v13 f (IntKind.i64.wrap (v2+1))
   else match idx v4 v2 with
   |none=>none
   |some x1=>(match Pref14_commute F x1.N x1.X x1.Z x1.Ph v10 v11 v12 v13 with|none=>none|some r2=>(bif r2 then (match idx v5 v2 with
   |none=>none
   |some x3=>(match Pref14_commute F x3.N x3.X x3.Z x3.Ph v10 v11 v12 v13 with|none=>none|some r4=>(bif r4 then Pref14_ProjectL0 F v0 v1 v3 v4 v5 v6 v7 v8 v9 v10 v11 v12 v13 f (IntKind.i64.wrap (v2+1))
   else match idx v4 v1 with
   |none=>none
   |some x5=>(match Pref14_times F x3.N x3.X x3.Z x3.Ph x5.N x5.X x5.Z x5.Ph with|none=>none|some (r6,r7,r8,r9)=>(match idx v9 v2 with
   |none=>none
   |some x10=>none)))))
   else match idx v4 v1 with
   |none=>none
   |some x11=>(match Pref14_times F x1.N x1.X x1.Z x1.Ph x11.N x11.X x11.Z x11.Ph with|none=>none|some (r12,r13,r14,r15)=>(match idx v8 v2 with
   |none=>none
   |some x16=>none))))
   else some ()
def Pref14_ProjectL1 (F:Nat)(v0 v1 v3:Int)(v4 v5:List Pl)(v6 v7:Int)(v8:List Pl)(v9:Int)(v10 v11:BitVec 64)(v12:Int):Nat→Int→List Pl→Option (List Pl)
  |0,_,_=>none
  |f+1,v2,v13=>
   if v2<v3 then if v2=v1 then Pref14_ProjectL1 F v0 v1 v3 v4 v5 v6 v7 v8 v9 v10 v11 v12 f (IntKind.i64.wrap (v2+1)) v13
   else match idx v4 v2 with
   |none=>none
   |some x1=>(match Pref14_commute F x1.N x1.X x1.Z x1.Ph v9 v10 v11 v12 with|none=>none|some r2=>(bif r2 then (match idx v5 v2 with
   |none=>none
   |some x3=>(match Pref14_commute F x3.N x3.X x3.Z x3.Ph v9 v10 v11 v12 with|none=>none|some r4=>(bif r4 then Pref14_ProjectL1 F v0 v1 v3 v4 v5 v6 v7 v8 v9 v10 v11 v12 f (IntKind.i64.wrap (v2+1)) v13
   else match idx v4 v1 with
   |none=>none
   |some x5=>(match Pref14_times F x3.N x3.X x3.Z x3.Ph x5.N x5.X x5.Z x5.Ph with|none=>none|some (r6,r7,r8,r9)=>(match idx v13 v2 with
   |none=>none
   |some x10=>Pref14_ProjectL1 F v0 v1 v3 v4 v5 v6 v7 v8 v9 v10 v11 v12 f (IntKind.i64.wrap (v2+1)) ((v13).set v2.toNat (⟨r6,r7,r8,r9⟩:Pl)))))))
   else match idx v4 v1 with
   |none=>none
   |some x11=>(match Pref14_times F x1.N x1.X x1.Z x1.Ph x11.N x11.X x11.Z x11.Ph with|none=>none|some (r12,r13,r14,r15)=>(match idx v8 v2 with
   |none=>none
   |some x16=>none))))
   else some (v13)
theorem lref14_ProjectL1n0_0 (F:Nat)(v0 v1 v3:Int)(v4 v5:List Pl)(v6 v7:Int)(v8:List Pl)(v9:Int)(v10 v11:BitVec 64)(v12:Int):∀ (f:Nat) (v2:Int) (v13 y0:List Pl),Pref14_ProjectL1 F v0 v1 v3 v4 v5 v6 v7 v8 v9 v10 v11 v12 f v2 v13=some (y0)→y0.length=v13.length:=by
 intro f
 induction f with
 |zero=>intro v2 v13 y0 h;simp only [Pref14_ProjectL1] at h;cases h
 |succ f ih=>
 intro v2 v13 y0 h
 simp only [Pref14_ProjectL1,Bool.cond_eq_ite] at h
 (repeat' split at h)<;>first
 |(cases h;done)
 |(cases h;simp only [List.length_set];done)
 |(cases h;rfl)
 |(have q:=ih _ _ _ h;simpa only [List.length_set] using q)
 |(have q:=ih _ _ _ h;(try simp only [List.length_set] at *);omega)
 |(cases h;(try simp only [List.length_set] at *);omega)
def Pref14_ProjectL2 (F:Nat)(v0 v1 v3:Int)(v4 v5:List Pl)(v6 v7:Int)(v8:List Pl)(v9:Int)(v10 v11:BitVec 64)(v12:Int):Nat→Int→List Pl→Option (List Pl)
  |0,_,_=>none
  |f+1,v2,v13=>
   if v2<v3 then if v2=v1 then Pref14_ProjectL2 F v0 v1 v3 v4 v5 v6 v7 v8 v9 v10 v11 v12 f (IntKind.i64.wrap (v2+1)) v13
   else match idx v4 v2 with
   |none=>none
   |some x1=>(match Pref14_commute F x1.N x1.X x1.Z x1.Ph v9 v10 v11 v12 with|none=>none|some r2=>(bif r2 then (match idx v5 v2 with
   |none=>none
   |some x3=>(match Pref14_commute F x3.N x3.X x3.Z x3.Ph v9 v10 v11 v12 with|none=>none|some r4=>(bif r4 then Pref14_ProjectL2 F v0 v1 v3 v4 v5 v6 v7 v8 v9 v10 v11 v12 f (IntKind.i64.wrap (v2+1)) v13
   else match idx v4 v1 with
   |none=>none
   |some x5=>(match Pref14_times F x3.N x3.X x3.Z x3.Ph x5.N x5.X x5.Z x5.Ph with|none=>none|some (r6,r7,r8,r9)=>(match idx v8 v2 with
   |none=>none
   |some x10=>none)))))
   else match idx v4 v1 with
   |none=>none
   |some x11=>(match Pref14_times F x1.N x1.X x1.Z x1.Ph x11.N x11.X x11.Z x11.Ph with|none=>none|some (r12,r13,r14,r15)=>(match idx v13 v2 with
   |none=>none
   |some x16=>(match idx v5 v2 with
   |none=>none
   |some x17=>(match Pref14_commute F x17.N x17.X x17.Z x17.Ph v9 v10 v11 v12 with|none=>none|some r18=>(bif r18 then Pref14_ProjectL2 F v0 v1 v3 v4 v5 v6 v7 v8 v9 v10 v11 v12 f (IntKind.i64.wrap (v2+1)) ((v13).set v2.toNat (⟨r12,r13,r14,r15⟩:Pl))
   else match Pref14_times F x17.N x17.X x17.Z x17.Ph x11.N x11.X x11.Z x11.Ph with|none=>none|some (r19,r20,r21,r22)=>(match idx v8 v2 with
   |none=>none
   |some x23=>none))))))))
   else some (v13)
theorem lref14_ProjectL2n0_0 (F:Nat)(v0 v1 v3:Int)(v4 v5:List Pl)(v6 v7:Int)(v8:List Pl)(v9:Int)(v10 v11:BitVec 64)(v12:Int):∀ (f:Nat) (v2:Int) (v13 y0:List Pl),Pref14_ProjectL2 F v0 v1 v3 v4 v5 v6 v7 v8 v9 v10 v11 v12 f v2 v13=some (y0)→y0.length=v13.length:=by
 intro f
 induction f with
 |zero=>intro v2 v13 y0 h;simp only [Pref14_ProjectL2] at h;cases h
 |succ f ih=>
 intro v2 v13 y0 h
 simp only [Pref14_ProjectL2,Bool.cond_eq_ite] at h
 (repeat' split at h)<;>first
 |(cases h;done)
 |(cases h;simp only [List.length_set];done)
 |(cases h;rfl)
 |(have q:=ih _ _ _ h;simpa only [List.length_set] using q)
 |(have q:=ih _ _ _ h;(try simp only [List.length_set] at *);omega)
 |(cases h;(try simp only [List.length_set] at *);omega)
def Pref14_ProjectL3 (F:Nat)(v0 v1 v3:Int)(v4 v5:List Pl)(v6 v7 v8:Int)(v9 v10:BitVec 64)(v11:Int):Nat→Int→List Pl→List Pl→Option ((List Pl)×(List Pl))
  |0,_,_,_=>none
  |f+1,v2,v12,v13=>
   if v2<v3 then if v2=v1 then Pref14_ProjectL3 F v0 v1 v3 v4 v5 v6 v7 v8 v9 v10 v11 f (IntKind.i64.wrap (v2+1)) v12 v13
   else match idx v4 v2 with
   |none=>none
   |some x1=>(match Pref14_commute F x1.N x1.X x1.Z x1.Ph v8 v9 v10 v11 with|none=>none|some r2=>(bif r2 then (match idx v5 v2 with
   |none=>none
   |some x3=>(match Pref14_commute F x3.N x3.X x3.Z x3.Ph v8 v9 v10 v11 with|none=>none|some r4=>(bif r4 then Pref14_ProjectL3 F v0 v1 v3 v4 v5 v6 v7 v8 v9 v10 v11 f (IntKind.i64.wrap (v2+1)) v12 v13
   else match idx v4 v1 with
   |none=>none
   |some x5=>(match Pref14_times F x3.N x3.X x3.Z x3.Ph x5.N x5.X x5.Z x5.Ph with|none=>none|some (r6,r7,r8,r9)=>(match idx v13 v2 with
   |none=>none
   |some x10=>Pref14_ProjectL3 F v0 v1 v3 v4 v5 v6 v7 v8 v9 v10 v11 f (IntKind.i64.wrap (v2+1)) v12 ((v13).set v2.toNat (⟨r6,r7,r8,r9⟩:Pl)))))))
   else match idx v4 v1 with
   |none=>none
   |some x11=>(match Pref14_times F x1.N x1.X x1.Z x1.Ph x11.N x11.X x11.Z x11.Ph with|none=>none|some (r12,r13,r14,r15)=>(match idx v12 v2 with
   |none=>none
   |some x16=>(match idx v5 v2 with
   |none=>none
   |some x17=>(match Pref14_commute F x17.N x17.X x17.Z x17.Ph v8 v9 v10 v11 with|none=>none|some r18=>(bif r18 then Pref14_ProjectL3 F v0 v1 v3 v4 v5 v6 v7 v8 v9 v10 v11 f (IntKind.i64.wrap (v2+1)) ((v12).set v2.toNat (⟨r12,r13,r14,r15⟩:Pl)) v13
   else match Pref14_times F x17.N x17.X x17.Z x17.Ph x11.N x11.X x11.Z x11.Ph with|none=>none|some (r19,r20,r21,r22)=>(match idx v13 v2 with
   |none=>none
   |some x23=>Pref14_ProjectL3 F v0 v1 v3 v4 v5 v6 v7 v8 v9 v10 v11 f (IntKind.i64.wrap (v2+1)) ((v12).set v2.toNat (⟨r12,r13,r14,r15⟩:Pl)) ((v13).set v2.toNat (⟨r19,r20,r21,r22⟩:Pl))))))))))
   else some (v12,v13)
theorem lref14_ProjectL3n0_0 (F:Nat)(v0 v1 v3:Int)(v4 v5:List Pl)(v6 v7 v8:Int)(v9 v10:BitVec 64)(v11:Int):∀ (f:Nat) (v2:Int) (v12 v13 y0 y1:List Pl),Pref14_ProjectL3 F v0 v1 v3 v4 v5 v6 v7 v8 v9 v10 v11 f v2 v12 v13=some (y0,y1)→y0.length=v12.length:=by
 intro f
 induction f with
 |zero=>intro v2 v12 v13 y0 y1 h;simp only [Pref14_ProjectL3] at h;cases h
 |succ f ih=>
 intro v2 v12 v13 y0 y1 h
 simp only [Pref14_ProjectL3,Bool.cond_eq_ite] at h
 (repeat' split at h)<;>first
 |(cases h;done)
 |(cases h;simp only [List.length_set];done)
 |(cases h;rfl)
 |(have q:=ih _ _ _ _ _ h;simpa only [List.length_set] using q)
 |(have q:=ih _ _ _ _ _ h;(try simp only [List.length_set] at *);omega)
 |(cases h;(try simp only [List.length_set] at *);omega)
theorem lref14_ProjectL3n0_1 (F:Nat)(v0 v1 v3:Int)(v4 v5:List Pl)(v6 v7 v8:Int)(v9 v10:BitVec 64)(v11:Int):∀ (f:Nat) (v2:Int) (v12 v13 y0 y1:List Pl),Pref14_ProjectL3 F v0 v1 v3 v4 v5 v6 v7 v8 v9 v10 v11 f v2 v12 v13=some (y0,y1)→y1.length=v13.length:=by
 intro f
 induction f with
 |zero=>intro v2 v12 v13 y0 y1 h;simp only [Pref14_ProjectL3] at h;cases h
 |succ f ih=>
 intro v2 v12 v13 y0 y1 h
 simp only [Pref14_ProjectL3,Bool.cond_eq_ite] at h
 (repeat' split at h)<;>first
 |(cases h;done)
 |(cases h;simp only [List.length_set];done)
 |(cases h;rfl)
 |(have q:=ih _ _ _ _ _ h;simpa only [List.length_set] using q)
 |(have q:=ih _ _ _ _ _ h;(try simp only [List.length_set] at *);omega)
 |(cases h;(try simp only [List.length_set] at *);omega)
def Pref14_Project (F:Nat)(a0_N:Int)(a0_Stab a0_Destab:List Pl)(a1 a2:Int):Option (Int×(List Pl)×(List Pl)×Int):=
  match Pref14_Odds F a0_N a0_Stab a0_Destab a1 with|none=>none|some (r1,r2)=>(if r2=0 then if a2<0 then some (0,[],[],if 2>r2 then 2 else r2)
   else if a2>1 then some (0,[],[],if 2>r2 then 2 else r2)
   else if r1=(IntKind.i64.wrap (1-a2)) then some (0,[],[],142)
   else match Pref14_Copy a0_N a0_Stab a0_Destab with|none=>none|some (r3,r4,r5)=>(if r4=[] then if r5=[] then if r1=a2 then some (r3,[],[],0)
   else match Pref14_letter a0_N a1 false with
   |(r6,r7,r8,r9)=>(match Pref14_loose F a0_N a0_Stab a0_Destab r6 r7 r8 r9 with|none=>none|some r10=>(match Pref14_ProjectL0 F a2 r10 a0_N a0_Stab a0_Destab 0 r3 ([]) ([]) r6 r7 r8 r9 F 0 with|none=>none|some _=>(match idx a0_Stab r10 with
   |none=>none
   |some x11=>none)))
   else if r1=a2 then some (r3,[],r5,0)
   else match Pref14_letter a0_N a1 false with
   |(r12,r13,r14,r15)=>(match Pref14_loose F a0_N a0_Stab a0_Destab r12 r13 r14 r15 with|none=>none|some r16=>(match Pref14_ProjectL1 F a2 r16 a0_N a0_Stab a0_Destab 0 r3 ([]) r12 r13 r14 r15 F 0 r5 with
   |none=>none
   |some y17=>(match idx a0_Stab r16 with
   |none=>none
   |some x18=>(match idx y17 r16 with
   |none=>none
   |some x19=>none))))
   else if r5=[] then if r1=a2 then some (r3,r4,[],0)
   else match Pref14_letter a0_N a1 false with
   |(r20,r21,r22,r23)=>(match Pref14_loose F a0_N a0_Stab a0_Destab r20 r21 r22 r23 with|none=>none|some r24=>(match Pref14_ProjectL2 F a2 r24 a0_N a0_Stab a0_Destab 0 r3 ([]) r20 r21 r22 r23 F 0 r4 with
   |none=>none
   |some y25=>(match idx a0_Stab r24 with
   |none=>none
   |some x26=>none)))
   else if r1=a2 then some (r3,r4,r5,0)
   else match Pref14_letter a0_N a1 false with
   |(r27,r28,r29,r30)=>(match Pref14_loose F a0_N a0_Stab a0_Destab r27 r28 r29 r30 with|none=>none|some r31=>(match Pref14_ProjectL3 F a2 r31 a0_N a0_Stab a0_Destab 0 r3 r27 r28 r29 r30 F 0 r4 r5 with
   |none=>none
   |some (y32,y33)=>(match idx a0_Stab r31 with
   |none=>none
   |some x34=>(match idx y33 r31 with
   |none=>none
   |some x35=>(match idx y32 r31 with
   |none=>none
   |some x36=>some (r3,(y32).set r31.toNat (⟨r27,r28,r29,IntKind.i64.wrap (2*a2)⟩:Pl),(y33).set r31.toNat x34,0)))))))
   else some (0,[],[],if 2>r2 then 2 else r2))
def Ptb_Settle (F:Nat)(a0_N:Int)(a0_Stab a0_Destab:List Pl)(a1 a2:Int):Option (Int×(List Pl)×(List Pl)×Int):=
  match Ptb_Project F a0_N a0_Stab a0_Destab a1 a2 with|none=>none|some (r1,r2,r3,r4)=>(if r4=0 then if a2=0 then some (r1,r2,r3,r4)
   else match Ptb_Gate F r1 r2 r3 2 ([a1]) with|none=>none|some (r5,r6,r7,r8)=>some (r5,r6,r7,r8)
   else some (r1,r2,r3,r4))
def Pref14_Settle (F:Nat)(a0_N:Int)(a0_Stab a0_Destab:List Pl)(a1 a2:Int):Option (Int×(List Pl)×(List Pl)×Int):=
  match Pref14_Project F a0_N a0_Stab a0_Destab a1 a2 with|none=>none|some (r1,r2,r3,r4)=>(if r4=0 then if a2=1 then match Pref14_Gate F r1 r2 r3 2 ([a1]) with|none=>none|some (r5,r6,r7,r8)=>some (r5,r6,r7,r8)
   else some (r1,r2,r3,r4)
   else some (r1,r2,r3,r4))
def Ptb_OrderL0 (v0:List Int)(v1:List Pl)(v2 v3:Int)(v4:List Pl)(v5 v6 v7 v8:Int)(v9 v10 v11 v12:List Pl):Nat→Option Unit
  |0=>none
  |f+1=>
   if v6<v5 then match idx v4 v6 with
   |none=>none
   |some x1=>(match idx v1 v6 with
   |none=>none
   |some x2=>none)
   else some ()
def Ptb_OrderL1 (F:Nat)(v0:List Int)(v1 v3 v4:Int)(v5 v6 v7 v8:List Pl):Nat→Int→Option Unit
  |0,_=>none
  |f+1,v2=>
   if v2<v1 then if v2=0 then match Ptb_OrderL0 v0 v7 v1 v2 v7 (v7.length:Int) 0 v3 v4 v5 v6 v7 v8 F with|none=>none|some _=>Ptb_OrderL1 F v0 v1 v3 v4 v5 v6 v7 v8 f (IntKind.i64.wrap (v2+1))
   else if v2=1 then match Ptb_OrderL0 v0 v8 v1 v2 v8 (v8.length:Int) 0 v3 v4 v5 v6 v7 v8 F with|none=>none|some _=>Ptb_OrderL1 F v0 v1 v3 v4 v5 v6 v7 v8 f (IntKind.i64.wrap (v2+1))
   else none
   else some ()
def Ptb_OrderL2 (v0:List Int)(v1:List Pl)(v2 v3:Int)(v4:List Pl)(v5 v6 v7 v8:Int)(v9 v10 v11:List Pl):Nat→Option Unit
  |0=>none
  |f+1=>
   if v6<v5 then match idx v4 v6 with
   |none=>none
   |some x1=>(match idx v1 v6 with
   |none=>none
   |some x2=>none)
   else some ()
def Ptb_OrderL3 (v0:List Int)(v1 v2 v3 v4 v5:Int)(v6:List Int)(v7 v9 v10:Int)(v11:List Pl)(v12:Int)(v13 v14:BitVec 64)(v15:Int)(v17:List Pl):Nat→Int→List Pl→Option (List Pl)
  |0,_,_=>none
  |f+1,v8,v16=>
   if v8<v7 then match idx v6 v8 with
   |none=>none
   |some x1=>(match idx v16 v1 with
   |none=>none
   |some x2=>(if v8<0 then none
   else if x1<0 then none
   else match idx ((v16).set v1.toNat (⟨x2.N,x2.X ||| (((v13 >>> v8.toNat) &&& 1#64) <<< x1.toNat),x2.Z,x2.Ph⟩:Pl)) v1 with
   |none=>none
   |some x3=>Ptb_OrderL3 v0 v1 v2 v3 v4 v5 v6 v7 v9 v10 v11 v12 v13 v14 v15 v17 f (IntKind.i64.wrap (v8+1)) (((v16).set v1.toNat (⟨x2.N,x2.X ||| (((v13 >>> v8.toNat) &&& 1#64) <<< x1.toNat),x2.Z,x2.Ph⟩:Pl)).set v1.toNat (⟨x3.N,x3.X,x3.Z ||| (((v14 >>> v8.toNat) &&& 1#64) <<< x1.toNat),x3.Ph⟩:Pl))))
   else some (v16)
theorem ltb_OrderL3n0_0 (v0:List Int)(v1 v2 v3 v4 v5:Int)(v6:List Int)(v7 v9 v10:Int)(v11:List Pl)(v12:Int)(v13 v14:BitVec 64)(v15:Int)(v17:List Pl):∀ (f:Nat) (v8:Int) (v16 y0:List Pl),Ptb_OrderL3 v0 v1 v2 v3 v4 v5 v6 v7 v9 v10 v11 v12 v13 v14 v15 v17 f v8 v16=some (y0)→y0.length=v16.length:=by
 intro f
 induction f with
 |zero=>intro v8 v16 y0 h;simp only [Ptb_OrderL3] at h;cases h
 |succ f ih=>
 intro v8 v16 y0 h
 simp only [Ptb_OrderL3,Bool.cond_eq_ite] at h
 (repeat' split at h)<;>first
 |(cases h;done)
 |(cases h;simp only [List.length_set];done)
 |(cases h;rfl)
 |(have q:=ih _ _ _ h;simpa only [List.length_set] using q)
 |(have q:=ih _ _ _ h;(try simp only [List.length_set] at *);omega)
 |(cases h;(try simp only [List.length_set] at *);omega)
def Ptb_OrderL4 (F:Nat)(v0:List Int)(v1 v2 v3 v5 v6:Int)(v7 v9:List Pl):Nat→Int→List Pl→Option (List Pl)
  |0,_,_=>none
  |f+1,v4,v8=>
   if v4<v3 then match idx v8 v4 with
   |none=>none
   |some x1=>(match idx ((v8).set v4.toNat (⟨x1.N,0#64,x1.Z,x1.Ph⟩:Pl)) v4 with
   |none=>none
   |some x2=>(match Ptb_OrderL3 v0 v4 v1 v2 v3 v4 v0 (v0.length:Int) v5 v6 v7 x1.N x1.X x1.Z x1.Ph v9 F 0 (((v8).set v4.toNat (⟨x1.N,0#64,x1.Z,x1.Ph⟩:Pl)).set v4.toNat (⟨x2.N,x2.X,0#64,x2.Ph⟩:Pl)) with
   |none=>none
   |some y3=>Ptb_OrderL4 F v0 v1 v2 v3 v5 v6 v7 v9 f (IntKind.i64.wrap (v4+1)) y3))
   else some (v8)
def Ptb_OrderL5 (F:Nat)(v0:List Int)(v1 v3 v4:Int)(v5 v6:List Pl):Nat→Int→List Pl→Option (List Pl)
  |0,_,_=>none
  |f+1,v2,v7=>
   if v2<v1 then if v2=0 then match Ptb_OrderL2 v0 v6 v1 v2 v6 (v6.length:Int) 0 v3 v4 v5 v6 v7 F with|none=>none|some _=>Ptb_OrderL5 F v0 v1 v3 v4 v5 v6 f (IntKind.i64.wrap (v2+1)) v7
   else if v2=1 then match Ptb_OrderL4 F v0 v1 v2 ((v7.length:Nat):Int) v3 v4 v5 v6 F 0 v7 with
   |none=>none
   |some y1=>Ptb_OrderL5 F v0 v1 v3 v4 v5 v6 f (IntKind.i64.wrap (v2+1)) y1
   else none
   else some (v7)
def Ptb_OrderL6 (v0:List Int)(v1 v2 v3 v4 v5:Int)(v6:List Int)(v7 v9 v10:Int)(v11:List Pl)(v12:Int)(v13 v14:BitVec 64)(v15:Int)(v17:List Pl):Nat→Int→List Pl→Option (List Pl)
  |0,_,_=>none
  |f+1,v8,v16=>
   if v8<v7 then match idx v6 v8 with
   |none=>none
   |some x1=>(match idx v16 v1 with
   |none=>none
   |some x2=>(if v8<0 then none
   else if x1<0 then none
   else match idx ((v16).set v1.toNat (⟨x2.N,x2.X ||| (((v13 >>> v8.toNat) &&& 1#64) <<< x1.toNat),x2.Z,x2.Ph⟩:Pl)) v1 with
   |none=>none
   |some x3=>Ptb_OrderL6 v0 v1 v2 v3 v4 v5 v6 v7 v9 v10 v11 v12 v13 v14 v15 v17 f (IntKind.i64.wrap (v8+1)) (((v16).set v1.toNat (⟨x2.N,x2.X ||| (((v13 >>> v8.toNat) &&& 1#64) <<< x1.toNat),x2.Z,x2.Ph⟩:Pl)).set v1.toNat (⟨x3.N,x3.X,x3.Z ||| (((v14 >>> v8.toNat) &&& 1#64) <<< x1.toNat),x3.Ph⟩:Pl))))
   else some (v16)
theorem ltb_OrderL6n0_0 (v0:List Int)(v1 v2 v3 v4 v5:Int)(v6:List Int)(v7 v9 v10:Int)(v11:List Pl)(v12:Int)(v13 v14:BitVec 64)(v15:Int)(v17:List Pl):∀ (f:Nat) (v8:Int) (v16 y0:List Pl),Ptb_OrderL6 v0 v1 v2 v3 v4 v5 v6 v7 v9 v10 v11 v12 v13 v14 v15 v17 f v8 v16=some (y0)→y0.length=v16.length:=by
 intro f
 induction f with
 |zero=>intro v8 v16 y0 h;simp only [Ptb_OrderL6] at h;cases h
 |succ f ih=>
 intro v8 v16 y0 h
 simp only [Ptb_OrderL6,Bool.cond_eq_ite] at h
 (repeat' split at h)<;>first
 |(cases h;done)
 |(cases h;simp only [List.length_set];done)
 |(cases h;rfl)
 |(have q:=ih _ _ _ h;simpa only [List.length_set] using q)
 |(have q:=ih _ _ _ h;(try simp only [List.length_set] at *);omega)
 |(cases h;(try simp only [List.length_set] at *);omega)
def Ptb_OrderL7 (F:Nat)(v0:List Int)(v1 v2 v3 v5 v6:Int)(v7 v9:List Pl):Nat→Int→List Pl→Option (List Pl)
  |0,_,_=>none
  |f+1,v4,v8=>
   if v4<v3 then match idx v8 v4 with
   |none=>none
   |some x1=>(match idx ((v8).set v4.toNat (⟨x1.N,0#64,x1.Z,x1.Ph⟩:Pl)) v4 with
   |none=>none
   |some x2=>(match Ptb_OrderL6 v0 v4 v1 v2 v3 v4 v0 (v0.length:Int) v5 v6 v7 x1.N x1.X x1.Z x1.Ph v9 F 0 (((v8).set v4.toNat (⟨x1.N,0#64,x1.Z,x1.Ph⟩:Pl)).set v4.toNat (⟨x2.N,x2.X,0#64,x2.Ph⟩:Pl)) with
   |none=>none
   |some y3=>Ptb_OrderL7 F v0 v1 v2 v3 v5 v6 v7 v9 f (IntKind.i64.wrap (v4+1)) y3))
   else some (v8)
def Ptb_OrderL8 (v0:List Int)(v1:List Pl)(v2 v3:Int)(v4:List Pl)(v5 v6 v7 v8:Int)(v9 v10 v11:List Pl):Nat→Option Unit
  |0=>none
  |f+1=>
   if v6<v5 then match idx v4 v6 with
   |none=>none
   |some x1=>(match idx v1 v6 with
   |none=>none
   |some x2=>none)
   else some ()
def Ptb_OrderL9 (F:Nat)(v0:List Int)(v1 v3 v4:Int)(v5 v6:List Pl):Nat→Int→List Pl→Option (List Pl)
  |0,_,_=>none
  |f+1,v2,v7=>
   if v2<v1 then if v2=0 then match Ptb_OrderL7 F v0 v1 v2 ((v7.length:Nat):Int) v3 v4 v5 v6 F 0 v7 with
   |none=>none
   |some y1=>Ptb_OrderL9 F v0 v1 v3 v4 v5 v6 f (IntKind.i64.wrap (v2+1)) y1
   else if v2=1 then match Ptb_OrderL8 v0 v6 v1 v2 v6 (v6.length:Int) 0 v3 v4 v5 v6 v7 F with|none=>none|some _=>Ptb_OrderL9 F v0 v1 v3 v4 v5 v6 f (IntKind.i64.wrap (v2+1)) v7
   else none
   else some (v7)
def Ptb_OrderL10 (v0:List Int)(v1 v2 v3 v4 v5:Int)(v6:List Int)(v7 v9 v10 v11:Int)(v12 v13:BitVec 64)(v14:Int)(v16:List Pl):Nat→Int→List Pl→Option (List Pl)
  |0,_,_=>none
  |f+1,v8,v15=>
   if v8<v7 then match idx v6 v8 with
   |none=>none
   |some x1=>(match idx v15 v1 with
   |none=>none
   |some x2=>(if v8<0 then none
   else if x1<0 then none
   else match idx ((v15).set v1.toNat (⟨x2.N,x2.X ||| (((v12 >>> v8.toNat) &&& 1#64) <<< x1.toNat),x2.Z,x2.Ph⟩:Pl)) v1 with
   |none=>none
   |some x3=>Ptb_OrderL10 v0 v1 v2 v3 v4 v5 v6 v7 v9 v10 v11 v12 v13 v14 v16 f (IntKind.i64.wrap (v8+1)) (((v15).set v1.toNat (⟨x2.N,x2.X ||| (((v12 >>> v8.toNat) &&& 1#64) <<< x1.toNat),x2.Z,x2.Ph⟩:Pl)).set v1.toNat (⟨x3.N,x3.X,x3.Z ||| (((v13 >>> v8.toNat) &&& 1#64) <<< x1.toNat),x3.Ph⟩:Pl))))
   else some (v15)
theorem ltb_OrderL10n0_0 (v0:List Int)(v1 v2 v3 v4 v5:Int)(v6:List Int)(v7 v9 v10 v11:Int)(v12 v13:BitVec 64)(v14:Int)(v16:List Pl):∀ (f:Nat) (v8:Int) (v15 y0:List Pl),Ptb_OrderL10 v0 v1 v2 v3 v4 v5 v6 v7 v9 v10 v11 v12 v13 v14 v16 f v8 v15=some (y0)→y0.length=v15.length:=by
 intro f
 induction f with
 |zero=>intro v8 v15 y0 h;simp only [Ptb_OrderL10] at h;cases h
 |succ f ih=>
 intro v8 v15 y0 h
 simp only [Ptb_OrderL10,Bool.cond_eq_ite] at h
 (repeat' split at h)<;>first
 |(cases h;done)
 |(cases h;simp only [List.length_set];done)
 |(cases h;rfl)
 |(have q:=ih _ _ _ h;simpa only [List.length_set] using q)
 |(have q:=ih _ _ _ h;(try simp only [List.length_set] at *);omega)
 |(cases h;(try simp only [List.length_set] at *);omega)
def Ptb_OrderL11 (F:Nat)(v0:List Int)(v1 v2 v3 v5 v6:Int)(v8:List Pl):Nat→Int→List Pl→Option (List Pl)
  |0,_,_=>none
  |f+1,v4,v7=>
   if v4<v3 then match idx v7 v4 with
   |none=>none
   |some x1=>(match idx ((v7).set v4.toNat (⟨x1.N,0#64,x1.Z,x1.Ph⟩:Pl)) v4 with
   |none=>none
   |some x2=>(match Ptb_OrderL10 v0 v4 v1 v2 v3 v4 v0 (v0.length:Int) v5 v6 x1.N x1.X x1.Z x1.Ph v8 F 0 (((v7).set v4.toNat (⟨x1.N,0#64,x1.Z,x1.Ph⟩:Pl)).set v4.toNat (⟨x2.N,x2.X,0#64,x2.Ph⟩:Pl)) with
   |none=>none
   |some y3=>Ptb_OrderL11 F v0 v1 v2 v3 v5 v6 v8 f (IntKind.i64.wrap (v4+1)) y3))
   else some (v7)
def Ptb_OrderL12 (v0:List Int)(v1 v2 v3 v4 v5:Int)(v6:List Int)(v7 v9 v10 v11:Int)(v12 v13:BitVec 64)(v14:Int)(v16:List Pl):Nat→Int→List Pl→Option (List Pl)
  |0,_,_=>none
  |f+1,v8,v15=>
   if v8<v7 then match idx v6 v8 with
   |none=>none
   |some x1=>(match idx v15 v1 with
   |none=>none
   |some x2=>(if v8<0 then none
   else if x1<0 then none
   else match idx ((v15).set v1.toNat (⟨x2.N,x2.X ||| (((v12 >>> v8.toNat) &&& 1#64) <<< x1.toNat),x2.Z,x2.Ph⟩:Pl)) v1 with
   |none=>none
   |some x3=>Ptb_OrderL12 v0 v1 v2 v3 v4 v5 v6 v7 v9 v10 v11 v12 v13 v14 v16 f (IntKind.i64.wrap (v8+1)) (((v15).set v1.toNat (⟨x2.N,x2.X ||| (((v12 >>> v8.toNat) &&& 1#64) <<< x1.toNat),x2.Z,x2.Ph⟩:Pl)).set v1.toNat (⟨x3.N,x3.X,x3.Z ||| (((v13 >>> v8.toNat) &&& 1#64) <<< x1.toNat),x3.Ph⟩:Pl))))
   else some (v15)
theorem ltb_OrderL12n0_0 (v0:List Int)(v1 v2 v3 v4 v5:Int)(v6:List Int)(v7 v9 v10 v11:Int)(v12 v13:BitVec 64)(v14:Int)(v16:List Pl):∀ (f:Nat) (v8:Int) (v15 y0:List Pl),Ptb_OrderL12 v0 v1 v2 v3 v4 v5 v6 v7 v9 v10 v11 v12 v13 v14 v16 f v8 v15=some (y0)→y0.length=v15.length:=by
 intro f
 induction f with
 |zero=>intro v8 v15 y0 h;simp only [Ptb_OrderL12] at h;cases h
 |succ f ih=>
 intro v8 v15 y0 h
 simp only [Ptb_OrderL12,Bool.cond_eq_ite] at h
 (repeat' split at h)<;>first
 |(cases h;done)
 |(cases h;simp only [List.length_set];done)
 |(cases h;rfl)
 |(have q:=ih _ _ _ h;simpa only [List.length_set] using q)
 |(have q:=ih _ _ _ h;(try simp only [List.length_set] at *);omega)
 |(cases h;(try simp only [List.length_set] at *);omega)
def Ptb_OrderL13 (F:Nat)(v0:List Int)(v1 v2 v3 v5 v6:Int)(v8:List Pl):Nat→Int→List Pl→Option (List Pl)
  |0,_,_=>none
  |f+1,v4,v7=>
   if v4<v3 then match idx v7 v4 with
   |none=>none
   |some x1=>(match idx ((v7).set v4.toNat (⟨x1.N,0#64,x1.Z,x1.Ph⟩:Pl)) v4 with
   |none=>none
   |some x2=>(match Ptb_OrderL12 v0 v4 v1 v2 v3 v4 v0 (v0.length:Int) v5 v6 x1.N x1.X x1.Z x1.Ph v8 F 0 (((v7).set v4.toNat (⟨x1.N,0#64,x1.Z,x1.Ph⟩:Pl)).set v4.toNat (⟨x2.N,x2.X,0#64,x2.Ph⟩:Pl)) with
   |none=>none
   |some y3=>Ptb_OrderL13 F v0 v1 v2 v3 v5 v6 v8 f (IntKind.i64.wrap (v4+1)) y3))
   else some (v7)
def Ptb_OrderL14 (F:Nat)(v0:List Int)(v1 v3 v4:Int):Nat→Int→List Pl→List Pl→Option ((List Pl)×(List Pl))
  |0,_,_,_=>none
  |f+1,v2,v5,v6=>
   if v2<v1 then if v2=0 then match Ptb_OrderL11 F v0 v1 v2 ((v5.length:Nat):Int) v3 v4 v6 F 0 v5 with
   |none=>none
   |some y1=>Ptb_OrderL14 F v0 v1 v3 v4 f (IntKind.i64.wrap (v2+1)) y1 v6
   else if v2=1 then match Ptb_OrderL13 F v0 v1 v2 ((v6.length:Nat):Int) v3 v4 v5 F 0 v6 with
   |none=>none
   |some y2=>Ptb_OrderL14 F v0 v1 v3 v4 f (IntKind.i64.wrap (v2+1)) v5 y2
   else none
   else some (v5,v6)
def Ptb_Order (F:Nat)(a0_N:Int)(a0_Stab a0_Destab:List Pl)(a1:List Int):Option (Int×(List Pl)×(List Pl)×Int):=
  match Ptb_Check F a0_N a0_Stab a0_Destab with|none=>none|some r1=>(if r1=0 then if (a1.length:Int)=a0_N then match Ptb_unlike F a1 a0_N with|none=>none|some r2=>(bif r2 then (match Ptb_copied a0_N a0_Stab a0_Destab with|none=>none|some (r3,r4,r5)=>(if r4=[] then if r5=[] then match Ptb_OrderL1 F a1 2 0 r3 ([]) ([]) ([]) ([]) F 0 with|none=>none|some _=>some (r3,[],[],0)
   else match Ptb_OrderL5 F a1 2 0 r3 ([]) ([]) F 0 r5 with
   |none=>none
   |some y6=>some (r3,[],y6,0)
   else if r5=[] then match Ptb_OrderL9 F a1 2 0 r3 ([]) ([]) F 0 r4 with
   |none=>none
   |some y7=>some (r3,y7,[],0)
   else match Ptb_OrderL14 F a1 2 0 r3 F 0 r4 r5 with
   |none=>none
   |some (y8,y9)=>some (r3,y8,y9,0)))
   else some (0,[],[],2))
   else some (0,[],[],2)
   else some (0,[],[],r1))
def Pref14_apartL0 (v0:List Int)(v1 v2:Int):Nat→Int→Option (Unit⊕(Unit))
  |0,_=>none
  |f+1,v3=>
   if v3<v2 then match idx v0 v3 with
   |none=>none
   |some x1=>(match idx v0 v2 with
   |none=>none
   |some x2=>(if x1=x2 then some (.inl ())
   else Pref14_apartL0 v0 v1 v2 f (IntKind.i64.wrap (v3+1))))
   else some (.inr ())
def Pref14_apartL1 (F:Nat)(v0:List Int)(v1:Int):Nat→Int→Option (Unit⊕(Unit))
  |0,_=>none
  |f+1,v2=>
   if v2<(v0.length:Int) then match idx v0 v2 with
   |none=>none
   |some x1=>(if x1<0 then some (.inl ())
   else if x1≥v1 then some (.inl ())
   else match Pref14_apartL0 v0 v1 v2 F 0 with
   |none=>none
   |some (.inl _)=>some (.inl ())
   |some (.inr _)=>Pref14_apartL1 F v0 v1 f (IntKind.i64.wrap (v2+1)))
   else some (.inr ())
def Pref14_apart (F:Nat)(a0:List Int)(a1:Int):Option Bool:=
  match Pref14_apartL1 F a0 a1 F 0 with
  |none=>none
  |some (.inl _)=>some false
  |some (.inr _)=>some true
def Pref14_orderedL0 (v0:List Int)(v2:Int)(v3 v4:BitVec 64)(v5 v6:Int)(v7 v8:BitVec 64)(v9 v10 v13:Int):Nat→Int→BitVec 64→BitVec 64→Option ((BitVec 64)×(BitVec 64))
  |0,_,_,_=>none
  |f+1,v1,v11,v12=>
   if v1<(v0.length:Int) then match idx v0 v1 with
   |none=>none
   |some x1=>Pref14_orderedL0 v0 v2 v3 v4 v5 v6 v7 v8 v9 v10 v13 f (IntKind.i64.wrap (v1+1)) (v11 ||| (((v3 >>> ((BitVec.ofInt 64 v1)).toNat) &&& 1#64) <<< ((BitVec.ofInt 64 x1)).toNat)) (v12 ||| (((v4 >>> ((BitVec.ofInt 64 v1)).toNat) &&& 1#64) <<< ((BitVec.ofInt 64 x1)).toNat))
   else some (v11,v12)
def Pref14_ordered (F:Nat)(a0_N:Int)(a0_X a0_Z:BitVec 64)(a0_Phase:Int)(a1:List Int):Option (Int×(BitVec 64)×(BitVec 64)×Int):=
  match Pref14_orderedL0 a1 a0_N a0_X a0_Z a0_Phase 0 0#64 0#64 0 a0_N a0_Phase F 0 0#64 0#64 with
  |none=>none
  |some (y1,y2)=>some (a0_N,y1,y2,a0_Phase)
def Pref14_OrderL0 (F:Nat)(v0:List Int)(v1 v2:Int)(v3 v4:List Pl)(v5 v6:Int)(v7 v8:List Pl):Nat→Option Unit
  |0=>none
  |f+1=>
   if v1<v2 then match idx v3 v1 with
   |none=>none
   |some x1=>(match Pref14_ordered F x1.N x1.X x1.Z x1.Ph v0 with|none=>none|some (r2,r3,r4,r5)=>(match idx v7 v1 with
   |none=>none
   |some x6=>none))
   else some ()
def Pref14_OrderL1 (F:Nat)(v0:List Int)(v1 v2:Int)(v3 v4:List Pl)(v5 v6:Int)(v7 v8:List Pl):Nat→Option Unit
  |0=>none
  |f+1=>
   if v1<v2 then match idx v3 v1 with
   |none=>none
   |some x1=>(match Pref14_ordered F x1.N x1.X x1.Z x1.Ph v0 with|none=>none|some (r2,r3,r4,r5)=>(match idx v7 v1 with
   |none=>none
   |some x6=>none))
   else some ()
def Pref14_OrderL2 (F:Nat)(v0:List Int)(v1 v2:Int)(v3 v4:List Pl)(v5 v6:Int)(v7 v8:List Pl):Nat→Option Unit
  |0=>none
  |f+1=>
   if v1<v2 then match idx v3 v1 with
   |none=>none
   |some x1=>(match Pref14_ordered F x1.N x1.X x1.Z x1.Ph v0 with|none=>none|some (r2,r3,r4,r5)=>(match idx v8 v1 with
   |none=>none
   |some x6=>(match idx v4 v1 with
   |none=>none
   |some x7=>(match Pref14_ordered F x7.N x7.X x7.Z x7.Ph v0 with|none=>none|some (r8,r9,r10,r11)=>(match idx v7 v1 with
   |none=>none
   |some x12=>none)))))
   else some ()
def Pref14_OrderL3 (F:Nat)(v0:List Int)(v2:Int)(v3 v4:List Pl)(v5 v6:Int):Nat→Int→List Pl→List Pl→Option ((List Pl)×(List Pl))
  |0,_,_,_=>none
  |f+1,v1,v7,v8=>
   if v1<v2 then match idx v3 v1 with
   |none=>none
   |some x1=>(match Pref14_ordered F x1.N x1.X x1.Z x1.Ph v0 with|none=>none|some (r2,r3,r4,r5)=>(match idx v7 v1 with
   |none=>none
   |some x6=>(match idx v4 v1 with
   |none=>none
   |some x7=>(match Pref14_ordered F x7.N x7.X x7.Z x7.Ph v0 with|none=>none|some (r8,r9,r10,r11)=>(match idx v8 v1 with
   |none=>none
   |some x12=>Pref14_OrderL3 F v0 v2 v3 v4 v5 v6 f (IntKind.i64.wrap (v1+1)) ((v7).set v1.toNat (⟨r2,r3,r4,r5⟩:Pl)) ((v8).set v1.toNat (⟨r8,r9,r10,r11⟩:Pl)))))))
   else some (v7,v8)
theorem lref14_OrderL3n0_0 (F:Nat)(v0:List Int)(v2:Int)(v3 v4:List Pl)(v5 v6:Int):∀ (f:Nat) (v1:Int) (v7 v8 y0 y1:List Pl),Pref14_OrderL3 F v0 v2 v3 v4 v5 v6 f v1 v7 v8=some (y0,y1)→y0.length=v7.length:=by
 intro f
 induction f with
 |zero=>intro v1 v7 v8 y0 y1 h;simp only [Pref14_OrderL3] at h;cases h
 |succ f ih=>
 intro v1 v7 v8 y0 y1 h
 simp only [Pref14_OrderL3,Bool.cond_eq_ite] at h
 (repeat' split at h)<;>first
 |(cases h;done)
 |(cases h;simp only [List.length_set];done)
 |(cases h;rfl)
 |(have q:=ih _ _ _ _ _ h;simpa only [List.length_set] using q)
 |(have q:=ih _ _ _ _ _ h;(try simp only [List.length_set] at *);omega)
 |(cases h;(try simp only [List.length_set] at *);omega)
theorem lref14_OrderL3n0_1 (F:Nat)(v0:List Int)(v2:Int)(v3 v4:List Pl)(v5 v6:Int):∀ (f:Nat) (v1:Int) (v7 v8 y0 y1:List Pl),Pref14_OrderL3 F v0 v2 v3 v4 v5 v6 f v1 v7 v8=some (y0,y1)→y1.length=v8.length:=by
 intro f
 induction f with
 |zero=>intro v1 v7 v8 y0 y1 h;simp only [Pref14_OrderL3] at h;cases h
 |succ f ih=>
 intro v1 v7 v8 y0 y1 h
 simp only [Pref14_OrderL3,Bool.cond_eq_ite] at h
 (repeat' split at h)<;>first
 |(cases h;done)
 |(cases h;simp only [List.length_set];done)
 |(cases h;rfl)
 |(have q:=ih _ _ _ _ _ h;simpa only [List.length_set] using q)
 |(have q:=ih _ _ _ _ _ h;(try simp only [List.length_set] at *);omega)
 |(cases h;(try simp only [List.length_set] at *);omega)
def Pref14_Order (F:Nat)(a0_N:Int)(a0_Stab a0_Destab:List Pl)(a1:List Int):Option (Int×(List Pl)×(List Pl)×Int):=
  match Pref14_Right F a0_N a0_Stab a0_Destab with|none=>none|some r1=>(bif r1 then (if (a1.length:Int)=a0_N then match Pref14_apart F a1 a0_N with|none=>none|some r2=>(bif r2 then (match Pref14_Copy a0_N a0_Stab a0_Destab with|none=>none|some (r3,r4,r5)=>(if r4=[] then if r5=[] then match Pref14_OrderL0 F a1 0 a0_N a0_Stab a0_Destab 0 r3 ([]) ([]) F with|none=>none|some _=>some (r3,[],[],0)
   else match Pref14_OrderL1 F a1 0 a0_N a0_Stab a0_Destab 0 r3 ([]) r5 F with|none=>none|some _=>some (r3,[],r5,0)
   else if r5=[] then match Pref14_OrderL2 F a1 0 a0_N a0_Stab a0_Destab 0 r3 ([]) r4 F with|none=>none|some _=>some (r3,r4,[],0)
   else match Pref14_OrderL3 F a1 a0_N a0_Stab a0_Destab 0 r3 F 0 r4 r5 with
   |none=>none
   |some (y6,y7)=>some (r3,y6,y7,0)))
   else some (0,[],[],2))
   else some (0,[],[],2))
   else some (0,[],[],140))
def Ptb_NewL0  : Nat→Int→Int→Int→Int→Int→List Pl→List Pl→Option ((Int×Int)⊕(Int×Int×(List Pl)×(List Pl)))
  |0,_,_,_,_,_,_,_=>none
  |f+1,v0,v1,v2,v3,v4,v5,v6=>
   if v2<v1 then if v2<0 then none
   else if (v5.length+1)*32≤140737488355328 then if (v6.length+1)*32≤140737488355328 then Ptb_NewL0 f v0 v1 (IntKind.i64.wrap (v2+1)) v3 v4 (v5++[(⟨v0,0#64,1#64 <<< v2.toNat,0⟩:Pl)]) (v6++[(⟨v0,1#64 <<< v2.toNat,0#64,0⟩:Pl)])
   else none
   else none
   else some (.inr (v3,v4,v5,v6))
def Ptb_NewL1  : Nat→Int→Int→Int→Int→Int→Option ((Int×Int)⊕(Int×Int×(List Pl)×(List Pl)))
  |0,_,_,_,_,_=>none
  |f+1,v0,v1,v2,v3,v4=>
   if v2<v1 then if v2<0 then none
   else Ptb_NewL0 f v0 v1 (IntKind.i64.wrap (v2+1)) v3 v4 ([(⟨v0,0#64,1#64 <<< v2.toNat,0⟩:Pl)]) ([(⟨v0,1#64 <<< v2.toNat,0#64,0⟩:Pl)])
   else some (.inl (v3,v4))
def Ptb_New (F:Nat)(a0:Int):Option (Int×(List Pl)×(List Pl)×Int):=
  if a0<0 then some (0,[],[],2)
  else if a0>64 then some (0,[],[],2)
   else match Ptb_NewL1 F a0 a0 0 0 a0 with
   |none=>none
   |some (.inl (y1,y2))=>some (y2,[],[],0)
   |some (.inr (y3,y4,y5,y6))=>some (y4,y5,y6,0)
def Pref14_NewL0  : Nat→Int→Int→Int→Int→List Pl→List Pl→Option ((Int×Int)⊕(Int×Int×(List Pl)×(List Pl)))
  |0,_,_,_,_,_,_=>none
  |f+1,v0,v1,v2,v3,v4,v5=>
   if v1<v0 then match Pref14_letter v0 v1 false with
   |(r1,r2,r3,r4)=>(if (v4.length+1)*32≤140737488355328 then match Pref14_letter v0 v1 true with
   |(r5,r6,r7,r8)=>(if (v5.length+1)*32≤140737488355328 then Pref14_NewL0 f v0 (IntKind.i64.wrap (v1+1)) v2 v3 (v4++[(⟨r1,r2,r3,r4⟩:Pl)]) (v5++[(⟨r5,r6,r7,r8⟩:Pl)])
   else none)
   else none)
   else some (.inr (v2,v3,v4,v5))
def Pref14_NewL1  : Nat→Int→Int→Int→Int→Option ((Int×Int)⊕(Int×Int×(List Pl)×(List Pl)))
  |0,_,_,_,_=>none
  |f+1,v0,v1,v2,v3=>
   if v1<v0 then match Pref14_letter v0 v1 false with
   |(r1,r2,r3,r4)=>(match Pref14_letter v0 v1 true with
   |(r5,r6,r7,r8)=>Pref14_NewL0 f v0 (IntKind.i64.wrap (v1+1)) v2 v3 ([(⟨r1,r2,r3,r4⟩:Pl)]) ([(⟨r5,r6,r7,r8⟩:Pl)]))
   else some (.inl (v2,v3))
def Pref14_New (F:Nat)(a0:Int):Option (Int×(List Pl)×(List Pl)×Int):=
  if a0<0 then some (0,[],[],2)
  else if a0>64 then some (0,[],[],2)
   else match Pref14_NewL1 F a0 0 0 a0 with
   |none=>none
   |some (.inl (y1,y2))=>some (y2,[],[],0)
   |some (.inr (y3,y4,y5,y6))=>some (y4,y5,y6,0)
def Ptb_moved (a0_N:Int)(a0_X a0_Z:BitVec 64)(a0_Phase a1 a2:Int):Option (Int×(BitVec 64)×(BitVec 64)×Int):=
  if a2<0 then none
  else some (a1,a0_X <<< a2.toNat,a0_Z <<< a2.toNat,a0_Phase)
def Ptb_KronL0  : Nat→Int→Int→Int→Int→List Pl→List Pl→Int→List Pl→List Pl→Int→Int→List Pl→List Pl→Option ((Int×Int×(List Pl)×(List Pl)×Int×(List Pl)×(List Pl)×Int×Int)⊕(Int×Int×(List Pl)×(List Pl)×Int×(List Pl)×(List Pl)×Int×Int×(List Pl)×(List Pl)))
  |0,_,_,_,_,_,_,_,_,_,_,_,_,_=>none
  |f+1,v0,v1,v2,v3,v4,v5,v6,v7,v8,v9,v10,v11,v12=>
   if v2<v1 then match idx v7 v2 with
   |none=>none
   |some x1=>(match Ptb_moved x1.N x1.X x1.Z x1.Ph v0 0 with|none=>none|some (r2,r3,r4,r5)=>(if (v11.length+1)*32≤140737488355328 then match idx v8 v2 with
   |none=>none
   |some x6=>(match Ptb_moved x6.N x6.X x6.Z x6.Ph v0 0 with|none=>none|some (r7,r8,r9,r10)=>(if (v12.length+1)*32≤140737488355328 then Ptb_KronL0 f v0 v1 (IntKind.i64.wrap (v2+1)) v3 v4 v5 v6 v7 v8 v9 v10 (v11++[(⟨r2,r3,r4,r5⟩:Pl)]) (v12++[(⟨r7,r8,r9,r10⟩:Pl)])
   else none))
   else none))
   else some (.inr (v0,v3,v4,v5,v6,v7,v8,v9,v10,v11,v12))
def Ptb_KronL1  : Nat→Int→Int→Int→Int→List Pl→List Pl→Int→List Pl→List Pl→Int→Int→Option ((Int×Int×(List Pl)×(List Pl)×Int×(List Pl)×(List Pl)×Int×Int)⊕(Int×Int×(List Pl)×(List Pl)×Int×(List Pl)×(List Pl)×Int×Int×(List Pl)×(List Pl)))
  |0,_,_,_,_,_,_,_,_,_,_,_=>none
  |f+1,v0,v1,v2,v3,v4,v5,v6,v7,v8,v9,v10=>
   if v2<v1 then match idx v7 v2 with
   |none=>none
   |some x1=>(match Ptb_moved x1.N x1.X x1.Z x1.Ph v0 0 with|none=>none|some (r2,r3,r4,r5)=>(match idx v8 v2 with
   |none=>none
   |some x6=>(match Ptb_moved x6.N x6.X x6.Z x6.Ph v0 0 with|none=>none|some (r7,r8,r9,r10)=>Ptb_KronL0 f v0 v1 (IntKind.i64.wrap (v2+1)) v3 v4 v5 v6 v7 v8 v9 v10 ([(⟨r2,r3,r4,r5⟩:Pl)]) ([(⟨r7,r8,r9,r10⟩:Pl)]))))
   else some (.inl (v0,v3,v4,v5,v6,v7,v8,v9,v10))
def Ptb_KronL2  : Nat→Int→Int→Int→Int→List Pl→List Pl→Int→List Pl→List Pl→Int→Int→List Pl→List Pl→Option ((Int×Int)⊕(Int×Int×(List Pl)×(List Pl)))
  |0,_,_,_,_,_,_,_,_,_,_,_,_,_=>none
  |f+1,v0,v1,v2,v3,v4,v5,v6,v7,v8,v9,v10,v11,v12=>
   if v2<v1 then match idx v4 v2 with
   |none=>none
   |some x1=>(match Ptb_moved x1.N x1.X x1.Z x1.Ph v0 v6 with|none=>none|some (r2,r3,r4,r5)=>(if (v11.length+1)*32≤140737488355328 then match idx v5 v2 with
   |none=>none
   |some x6=>(match Ptb_moved x6.N x6.X x6.Z x6.Ph v0 v6 with|none=>none|some (r7,r8,r9,r10)=>(if (v12.length+1)*32≤140737488355328 then Ptb_KronL2 f v0 v1 (IntKind.i64.wrap (v2+1)) v3 v4 v5 v6 v7 v8 v9 v10 (v11++[(⟨r2,r3,r4,r5⟩:Pl)]) (v12++[(⟨r7,r8,r9,r10⟩:Pl)])
   else none))
   else none))
   else some (.inr (v9,v10,v11,v12))
def Ptb_KronL3  : Nat→Int→Int→Int→Int→List Pl→List Pl→Int→List Pl→List Pl→Int→Int→Option ((Int×Int)⊕(Int×Int×(List Pl)×(List Pl)))
  |0,_,_,_,_,_,_,_,_,_,_,_=>none
  |f+1,v0,v1,v2,v3,v4,v5,v6,v7,v8,v9,v10=>
   if v2<v1 then match idx v4 v2 with
   |none=>none
   |some x1=>(match Ptb_moved x1.N x1.X x1.Z x1.Ph v0 v6 with|none=>none|some (r2,r3,r4,r5)=>(match idx v5 v2 with
   |none=>none
   |some x6=>(match Ptb_moved x6.N x6.X x6.Z x6.Ph v0 v6 with|none=>none|some (r7,r8,r9,r10)=>Ptb_KronL2 f v0 v1 (IntKind.i64.wrap (v2+1)) v3 v4 v5 v6 v7 v8 v9 v10 ([(⟨r2,r3,r4,r5⟩:Pl)]) ([(⟨r7,r8,r9,r10⟩:Pl)]))))
   else some (.inl (v9,v10))
def Ptb_Kron (F:Nat)(a0_N:Int)(a0_Stab a0_Destab:List Pl)(a1_N:Int)(a1_Stab a1_Destab:List Pl):Option (Int×(List Pl)×(List Pl)×Int):=
  match Ptb_Check F a0_N a0_Stab a0_Destab with|none=>none|some r1=>(if r1=0 then match Ptb_Check F a1_N a1_Stab a1_Destab with|none=>none|some r2=>(if r2=0 then if (IntKind.i64.wrap (a0_N+a1_N))>64 then some (0,[],[],2)
   else match Ptb_KronL1 F (IntKind.i64.wrap (a0_N+a1_N)) a1_N 0 a0_N a0_Stab a0_Destab a1_N a1_Stab a1_Destab 0 (IntKind.i64.wrap (a0_N+a1_N)) with
   |none=>none
   |some (.inl (y3,y4,y5,y6,y7,y8,y9,y10,y11))=>(match Ptb_KronL3 F y3 y4 0 y4 y5 y6 y7 y8 y9 y10 y11 with
   |none=>none
   |some (.inl (y23,y24))=>some (y24,[],[],0)
   |some (.inr (y25,y26,y27,y28))=>some (y26,y27,y28,0))
   |some (.inr (y12,y13,y14,y15,y16,y17,y18,y19,y20,y21,y22))=>(match Ptb_KronL2 F y12 y13 0 y13 y14 y15 y16 y17 y18 y19 y20 y21 y22 with
   |none=>none
   |some (.inl (y29,y30))=>some (y30,[],[],0)
   |some (.inr (y31,y32,y33,y34))=>some (y32,y33,y34,0))
   else some (0,[],[],140))
   else some (0,[],[],140))
def Pref14_KronL0  : Nat→Int→Int→BitVec 64→Int→Int→List Pl→List Pl→Int→List Pl→List Pl→Int→Int→Int→List Pl→List Pl→List Pl→List Pl→Option ((Int×Int×Int×(List Pl)×(List Pl)×Int×(List Pl)×(List Pl)×Int×Int)⊕(Int×Int×Int×(List Pl)×(List Pl)×Int×(List Pl)×(List Pl)×Int×Int×(List Pl)×(List Pl)))
  |0,_,_,_,_,_,_,_,_,_,_,_,_,_,_,_,_,_=>none
  |f+1,v0,v1,v2,v3,v4,v5,v6,v7,v8,v9,v10,v11,v12,v13,v14,v15,v16=>
   if v3<v12 then match idx v13 v3 with
   |none=>none
   |some x1=>(match idx v14 v3 with
   |none=>none
   |some x2=>(if (v15.length+1)*32≤140737488355328 then if (v16.length+1)*32≤140737488355328 then Pref14_KronL0 f v0 v1 v2 (IntKind.i64.wrap (v3+1)) v4 v5 v6 v7 v8 v9 v10 v11 v12 v13 v14 (v15++[(⟨v0,x1.X <<< (v2).toNat,x1.Z <<< (v2).toNat,x1.Ph⟩:Pl)]) (v16++[(⟨v0,x2.X <<< (v2).toNat,x2.Z <<< (v2).toNat,x2.Ph⟩:Pl)])
   else none
   else none))
   else some (.inr (v0,v1,v4,v5,v6,v7,v8,v9,v10,v11,v15,v16))
def Pref14_KronL1  : Nat→Int→Int→BitVec 64→Int→Int→List Pl→List Pl→Int→List Pl→List Pl→Int→Int→Int→List Pl→List Pl→Option ((Int×Int×Int×(List Pl)×(List Pl)×Int×(List Pl)×(List Pl)×Int×Int)⊕(Int×Int×Int×(List Pl)×(List Pl)×Int×(List Pl)×(List Pl)×Int×Int×(List Pl)×(List Pl)))
  |0,_,_,_,_,_,_,_,_,_,_,_,_,_,_,_=>none
  |f+1,v0,v1,v2,v3,v4,v5,v6,v7,v8,v9,v10,v11,v12,v13,v14=>
   if v3<v12 then match idx v13 v3 with
   |none=>none
   |some x1=>(match idx v14 v3 with
   |none=>none
   |some x2=>Pref14_KronL0 f v0 v1 v2 (IntKind.i64.wrap (v3+1)) v4 v5 v6 v7 v8 v9 v10 v11 v12 v13 v14 ([(⟨v0,x1.X <<< (v2).toNat,x1.Z <<< (v2).toNat,x1.Ph⟩:Pl)]) ([(⟨v0,x2.X <<< (v2).toNat,x2.Z <<< (v2).toNat,x2.Ph⟩:Pl)]))
   else some (.inl (v0,v1,v4,v5,v6,v7,v8,v9,v10,v11))
def Pref14_KronL2 (v0 v1:Int)(v2:BitVec 64)(v4:Int)(v5 v6:List Pl)(v7:Int)(v8 v9:List Pl)(v10 v11 v12:Int)(v13 v14:List Pl):Nat→Int→List Pl→List Pl→Option ((List Pl)×(List Pl))
  |0,_,_,_=>none
  |f+1,v3,v15,v16=>
   if v3<v12 then match idx v13 v3 with
   |none=>none
   |some x1=>(match idx v14 v3 with
   |none=>none
   |some x2=>(if (v15.length+1)*32≤140737488355328 then if (v16.length+1)*32≤140737488355328 then Pref14_KronL2 v0 v1 v2 v4 v5 v6 v7 v8 v9 v10 v11 v12 v13 v14 f (IntKind.i64.wrap (v3+1)) (v15++[(⟨v0,x1.X <<< (v2).toNat,x1.Z <<< (v2).toNat,x1.Ph⟩:Pl)]) (v16++[(⟨v0,x2.X <<< (v2).toNat,x2.Z <<< (v2).toNat,x2.Ph⟩:Pl)])
   else none
   else none))
   else some (v15,v16)
def Pref14_KronL3 (F:Nat)  : Nat→Int→Int→Int→List Pl→List Pl→Int→List Pl→List Pl→Int→Int→List Pl→List Pl→Option ((Int×Int)⊕(Int×Int×(List Pl)×(List Pl)))
  |0,_,_,_,_,_,_,_,_,_,_,_,_=>none
  |f+1,v0,v1,v2,v3,v4,v5,v6,v7,v8,v9,v10,v11=>
   if v1<2 then if v1=1 then match Pref14_KronL2 v0 v1 (BitVec.ofInt 64 v5) v2 v3 v4 v5 v6 v7 v8 v9 v2 v3 v4 F 0 v10 v11 with
   |none=>none
   |some (y1,y2)=>Pref14_KronL3 F f v0 (IntKind.i64.wrap (v1+1)) v2 v3 v4 v5 v6 v7 v8 v9 y1 y2
   else match Pref14_KronL2 v0 v1 0#64 v2 v3 v4 v5 v6 v7 v8 v9 v5 v6 v7 F 0 v10 v11 with
   |none=>none
   |some (y3,y4)=>Pref14_KronL3 F f v0 (IntKind.i64.wrap (v1+1)) v2 v3 v4 v5 v6 v7 v8 v9 y3 y4
   else some (.inr (v8,v9,v10,v11))
def Pref14_KronL4 (F:Nat)  : Nat→Int→Int→Int→List Pl→List Pl→Int→List Pl→List Pl→Int→Int→Option ((Int×Int)⊕(Int×Int×(List Pl)×(List Pl)))
  |0,_,_,_,_,_,_,_,_,_,_=>none
  |f+1,v0,v1,v2,v3,v4,v5,v6,v7,v8,v9=>
   if v1<2 then if v1=1 then match Pref14_KronL1 F v0 v1 (BitVec.ofInt 64 v5) 0 v2 v3 v4 v5 v6 v7 v8 v9 v2 v3 v4 with
   |none=>none
   |some (.inl (y1,y2,y3,y4,y5,y6,y7,y8,y9,y10))=>Pref14_KronL4 F f y1 (IntKind.i64.wrap (y2+1)) y3 y4 y5 y6 y7 y8 y9 y10
   |some (.inr (y11,y12,y13,y14,y15,y16,y17,y18,y19,y20,y21,y22))=>Pref14_KronL3 F f y11 (IntKind.i64.wrap (y12+1)) y13 y14 y15 y16 y17 y18 y19 y20 y21 y22
   else match Pref14_KronL1 F v0 v1 0#64 0 v2 v3 v4 v5 v6 v7 v8 v9 v5 v6 v7 with
   |none=>none
   |some (.inl (y23,y24,y25,y26,y27,y28,y29,y30,y31,y32))=>Pref14_KronL4 F f y23 (IntKind.i64.wrap (y24+1)) y25 y26 y27 y28 y29 y30 y31 y32
   |some (.inr (y33,y34,y35,y36,y37,y38,y39,y40,y41,y42,y43,y44))=>Pref14_KronL3 F f y33 (IntKind.i64.wrap (y34+1)) y35 y36 y37 y38 y39 y40 y41 y42 y43 y44
   else some (.inl (v8,v9))
def Pref14_Kron (F:Nat)(a0_N:Int)(a0_Stab a0_Destab:List Pl)(a1_N:Int)(a1_Stab a1_Destab:List Pl):Option (Int×(List Pl)×(List Pl)×Int):=
  match Pref14_Right F a0_N a0_Stab a0_Destab with|none=>none|some r1=>(bif r1 then (match Pref14_Right F a1_N a1_Stab a1_Destab with|none=>none|some r2=>(bif r2 then (if (IntKind.i64.wrap (a0_N+a1_N))>64 then some (0,[],[],2)
   else match Pref14_KronL4 F F (IntKind.i64.wrap (a0_N+a1_N)) 0 a0_N a0_Stab a0_Destab a1_N a1_Stab a1_Destab 0 (IntKind.i64.wrap (a0_N+a1_N)) with
   |none=>none
   |some (.inl (y3,y4))=>some (y4,[],[],0)
   |some (.inr (y5,y6,y7,y8))=>some (y6,y7,y8,0))
   else some (0,[],[],140)))
   else some (0,[],[],140))
def Plaw14_done (F:Nat)(a0_N:Int)(a0_Stab a0_Destab:List Pl)(a1_N:Int)(a1_Stab a1_Destab:List Pl)(a2_Kind a2_Gate:Int)(a2_Q:List Int)(a2_Value:Int):Option (Int×(List Pl)×(List Pl)×Int×(List Pl)×(List Pl)×Bool):=
  if a2_Kind=1 then match Ptb_Gate F a0_N a0_Stab a0_Destab a2_Gate a2_Q with|none=>none|some (r1,r2,r3,r4)=>(match Pref14_Gate F a1_N a1_Stab a1_Destab a2_Gate a2_Q with|none=>none|some (r5,r6,r7,r8)=>(if (Plaw14_num r4)=r8 then match Pref14_Alike F r1 r2 r3 r5 r6 r7 with|none=>none|some r9=>(bif r9 then (if (Plaw14_num r4)=0 then some (r1,r2,r3,r5,r6,r7,true)
   else some (a0_N,a0_Stab,a0_Destab,a1_N,a1_Stab,a1_Destab,true))
   else some (a0_N,a0_Stab,a0_Destab,a1_N,a1_Stab,a1_Destab,false))
   else some (a0_N,a0_Stab,a0_Destab,a1_N,a1_Stab,a1_Destab,false)))
  else if a2_Kind=2 then match Plaw14_first a2_Q with|none=>none|some r10=>(match Ptb_Project F a0_N a0_Stab a0_Destab r10 a2_Value with|none=>none|some (r11,r12,r13,r14)=>(match Pref14_Project F a1_N a1_Stab a1_Destab r10 a2_Value with|none=>none|some (r15,r16,r17,r18)=>(if (Plaw14_num r14)=r18 then match Pref14_Alike F r11 r12 r13 r15 r16 r17 with|none=>none|some r19=>(bif r19 then (if (Plaw14_num r14)=0 then some (r11,r12,r13,r15,r16,r17,true)
   else some (a0_N,a0_Stab,a0_Destab,a1_N,a1_Stab,a1_Destab,true))
   else some (a0_N,a0_Stab,a0_Destab,a1_N,a1_Stab,a1_Destab,false))
   else some (a0_N,a0_Stab,a0_Destab,a1_N,a1_Stab,a1_Destab,false))))
   else if a2_Kind=3 then match Plaw14_first a2_Q with|none=>none|some r20=>(match Ptb_Settle F a0_N a0_Stab a0_Destab r20 a2_Value with|none=>none|some (r21,r22,r23,r24)=>(match Pref14_Settle F a1_N a1_Stab a1_Destab r20 a2_Value with|none=>none|some (r25,r26,r27,r28)=>(if (Plaw14_num r24)=r28 then match Pref14_Alike F r21 r22 r23 r25 r26 r27 with|none=>none|some r29=>(bif r29 then (if (Plaw14_num r24)=0 then some (r21,r22,r23,r25,r26,r27,true)
   else some (a0_N,a0_Stab,a0_Destab,a1_N,a1_Stab,a1_Destab,true))
   else some (a0_N,a0_Stab,a0_Destab,a1_N,a1_Stab,a1_Destab,false))
   else some (a0_N,a0_Stab,a0_Destab,a1_N,a1_Stab,a1_Destab,false))))
   else if a2_Kind=4 then match Ptb_Order F a0_N a0_Stab a0_Destab a2_Q with|none=>none|some (r30,r31,r32,r33)=>(match Pref14_Order F a1_N a1_Stab a1_Destab a2_Q with|none=>none|some (r34,r35,r36,r37)=>(if (Plaw14_num r33)=r37 then match Pref14_Alike F r30 r31 r32 r34 r35 r36 with|none=>none|some r38=>(bif r38 then (if (Plaw14_num r33)=0 then some (r30,r31,r32,r34,r35,r36,true)
   else some (a0_N,a0_Stab,a0_Destab,a1_N,a1_Stab,a1_Destab,true))
   else some (a0_N,a0_Stab,a0_Destab,a1_N,a1_Stab,a1_Destab,false))
   else some (a0_N,a0_Stab,a0_Destab,a1_N,a1_Stab,a1_Destab,false)))
   else if a2_Kind=5 then match Ptb_New F a2_Value with|none=>none|some (r39,r40,r41,r42)=>(match Pref14_New F a2_Value with|none=>none|some (r43,r44,r45,r46)=>(match Ptb_Kron F r39 r40 r41 a0_N a0_Stab a0_Destab with|none=>none|some (r47,r48,r49,r50)=>(match Pref14_Kron F r43 r44 r45 a1_N a1_Stab a1_Destab with|none=>none|some (r51,r52,r53,r54)=>(if (Plaw14_num r50)=r54 then match Pref14_Alike F r47 r48 r49 r51 r52 r53 with|none=>none|some r55=>(bif r55 then (if (Plaw14_num r50)=0 then some (r47,r48,r49,r51,r52,r53,true)
   else some (a0_N,a0_Stab,a0_Destab,a1_N,a1_Stab,a1_Destab,true))
   else some (a0_N,a0_Stab,a0_Destab,a1_N,a1_Stab,a1_Destab,false))
   else some (a0_N,a0_Stab,a0_Destab,a1_N,a1_Stab,a1_Destab,false)))))
   else if ((Plaw14_num 0))=0 then match Pref14_Alike F a0_N a0_Stab a0_Destab a1_N a1_Stab a1_Destab with|none=>none|some r56=>(bif r56 then some (a0_N,a0_Stab,a0_Destab,a1_N,a1_Stab,a1_Destab,true)
   else some (a0_N,a0_Stab,a0_Destab,a1_N,a1_Stab,a1_Destab,false))
   else some (a0_N,a0_Stab,a0_Destab,a1_N,a1_Stab,a1_Destab,false)
def Pref14_reducedL0 (v0 v1 v2 v3:Int):Nat→Option Unit
  |0=>none
  |f+1=>
   if v3<0 then none
   else some ()
def Pref14_reducedL1 (F:Nat)(v0 v1:Int):Nat→Int→Option Unit
  |0,_=>none
  |f+1,v2=>
   if v2<(IntKind.i64.wrap (2*v0)) then if v1<0 then match Pref14_reducedL0 v0 v1 v2 v1 F with|none=>none|some _=>(if v1=0 then Pref14_reducedL1 F v0 v1 f (IntKind.i64.wrap (v2+1))
   else none)
   else some ()
   else some ()
def Pref14_bit (a0_N:Int)(a0_X a0_Z:BitVec 64)(a0_Phase a1:Int):Bool:=
  if a1<a0_N then decide (((a0_X >>> ((BitVec.ofInt 64 a1)).toNat) &&& 1#64)=1#64)
  else decide (((a0_Z >>> ((BitVec.ofInt 64 (IntKind.i64.wrap (a1-a0_N)))).toNat) &&& 1#64)=1#64)
def Pref14_reducedL2 (v0 v1 v2:Int)(v4:List Pl):Nat→Int→Option Int
  |0,_=>none
  |f+1,v3=>
   if v3<(((v4.length:Nat):Int)) then match idx v4 v3 with
   |none=>none
   |some x1=>(bif (Pref14_bit x1.N x1.X x1.Z x1.Ph v2) then some (v3)
   else Pref14_reducedL2 v0 v1 v2 v4 f (IntKind.i64.wrap (v3+1)))
   else some (v3)
def Pref14_reducedL3 (F:Nat)(v0 v1 v2:Int):Nat→Int→List Pl→Option (List Pl)
  |0,_,_=>none
  |f+1,v3,v4=>
   if v3<(((v4.length:Nat):Int)) then if v3=v1 then Pref14_reducedL3 F v0 v1 v2 f (IntKind.i64.wrap (v3+1)) v4
   else match idx v4 v3 with
   |none=>none
   |some x1=>(bif (Pref14_bit x1.N x1.X x1.Z x1.Ph v2) then (match idx v4 v1 with
   |none=>none
   |some x2=>(match Pref14_times F x1.N x1.X x1.Z x1.Ph x2.N x2.X x2.Z x2.Ph with|none=>none|some (r3,r4,r5,r6)=>Pref14_reducedL3 F v0 v1 v2 f (IntKind.i64.wrap (v3+1)) ((v4).set v3.toNat (⟨r3,r4,r5,r6⟩:Pl))))
   else Pref14_reducedL3 F v0 v1 v2 f (IntKind.i64.wrap (v3+1)) v4)
   else some (v4)
theorem lref14_reducedL3n0_0 (F:Nat)(v0 v1 v2:Int):∀ (f:Nat) (v3:Int) (v4 y0:List Pl),Pref14_reducedL3 F v0 v1 v2 f v3 v4=some (y0)→y0.length=v4.length:=by
 intro f
 induction f with
 |zero=>intro v3 v4 y0 h;simp only [Pref14_reducedL3] at h;cases h
 |succ f ih=>
 intro v3 v4 y0 h
 simp only [Pref14_reducedL3,Bool.cond_eq_ite] at h
 (repeat' split at h)<;>first
 |(cases h;done)
 |(cases h;simp only [List.length_set];done)
 |(cases h;rfl)
 |(have q:=ih _ _ _ h;simpa only [List.length_set] using q)
 |(have q:=ih _ _ _ h;(try simp only [List.length_set] at *);omega)
 |(cases h;(try simp only [List.length_set] at *);omega)
def Pref14_reducedL4 (F:Nat)(v0:Int):Nat→Int→Int→List Pl→Option (Int×(List Pl))
  |0,_,_,_=>none
  |f+1,v1,v2,v3=>
   if v2<(IntKind.i64.wrap (2*v0)) then if v1<(((v3.length:Nat):Int)) then match Pref14_reducedL2 v0 v1 v2 v3 F v1 with
   |none=>none
   |some y1=>(if y1=(((v3.length:Nat):Int)) then Pref14_reducedL4 F v0 f v1 (IntKind.i64.wrap (v2+1)) v3
   else match idx v3 y1 with
   |none=>none
   |some x2=>(match idx v3 v1 with
   |none=>none
   |some x3=>(match idx ((v3).set y1.toNat x3) v1 with
   |none=>none
   |some x4=>(match Pref14_reducedL3 F v0 v1 v2 F 0 (((v3).set y1.toNat x3).set v1.toNat x2) with
   |none=>none
   |some y5=>Pref14_reducedL4 F v0 f (IntKind.i64.wrap (v1+1)) (IntKind.i64.wrap (v2+1)) y5))))
   else some (v1,v3)
   else some (v1,v3)
theorem lref14_reducedL4n0_1 (F:Nat)(v0:Int):∀ (f:Nat) (v1 v2:Int) (v3:List Pl) (y0:Int) (y1:List Pl),Pref14_reducedL4 F v0 f v1 v2 v3=some (y0,y1)→y1.length=v3.length:=by
 intro f
 induction f with
 |zero=>intro v1 v2 v3 y0 y1 h;simp only [Pref14_reducedL4] at h;cases h
 |succ f ih=>
 intro v1 v2 v3 y0 y1 h
 simp only [Pref14_reducedL4,Bool.cond_eq_ite] at h
 (repeat' split at h)<;>first
 |(cases h;done)
 |(cases h;simp only [List.length_set];done)
 |(cases h;rfl)
 |(have q:=ih _ _ _ _ _ h;simpa only [List.length_set] using q)
 |(have q:=ih _ _ _ _ _ h;(try have r0:=lref14_reducedL3n0_0 _ _ _ _ _ _ _ _ (by assumption));(try simp only [List.length_set] at *);omega)
 |(cases h;(try have r0:=lref14_reducedL3n0_0 _ _ _ _ _ _ _ _ (by assumption));(try simp only [List.length_set] at *);omega)
def Pref14_reduced (F:Nat)(a0:List Pl)(a1:Int):Option (List Pl):=
  if a0=[] then match Pref14_reducedL1 F a1 0 F 0 with|none=>none|some _=>some ([])
  else if a0.length*32≤140737488355328 then match Pref14_reducedL4 F a1 F 0 0 a0 with
   |none=>none
   |some (y1,y2)=>(if 0≤y1∧y1≤(a0.length:Int) then some (y2.take y1.toNat)
   else none)
   else none
def Pref14_Canon (F:Nat)(a0_N:Int)(a0_Stab a0_Destab:List Pl):Option ((List Pl)×Int):=
  match Pref14_Right F a0_N a0_Stab a0_Destab with|none=>none|some r1=>(bif r1 then (match Pref14_reduced F a0_Stab a0_N with|none=>none|some r2=>some (r2,0))
   else some ([],140))
def Pref14_Same (F:Nat)(a0_N:Int)(a0_Stab a0_Destab:List Pl)(a1_N:Int)(a1_Stab a1_Destab:List Pl):Option Bool:=
  match Pref14_Canon F a0_N a0_Stab a0_Destab with|none=>none|some (r1,r2)=>(match Pref14_Canon F a1_N a1_Stab a1_Destab with|none=>none|some (r3,r4)=>(if r2=0 then if r4=0 then if a0_N=a1_N then match Pref14_SameRows F r1 r3 with|none=>none|some r5=>some r5
   else some false
   else some false
   else some false))
def Plaw14_tellsL0 (F:Nat)(v0:List Int)(v2:Int)(v3 v4:List Pl)(v5:Int)(v6 v7:List Pl)(v8:Int)(v9 v10:BitVec 64)(v11:Int):Nat→Int→Option (Unit⊕(Unit))
  |0,_=>none
  |f+1,v1=>
   if v1≤(if 65<v5 then 65 else v5) then match Ptb_Odds F v2 v3 v4 v1 with|none=>none|some (r1,r2)=>(match Pref14_Odds F v5 v6 v7 v1 with|none=>none|some (r3,r4)=>(if r1=r3 then if (Plaw14_num r2)=r4 then Plaw14_tellsL0 F v0 v2 v3 v4 v5 v6 v7 v8 v9 v10 v11 f (IntKind.i64.wrap (v1+1))
   else some (.inl ())
   else some (.inl ())))
   else some (.inr ())
def Pref14_CutL0 (v0:List Int)(v3:Int)(v4 v5:List Pl):Nat→BitVec 64→Int→Option (BitVec 64)
  |0,_,_=>none
  |f+1,v1,v2=>
   if v2<(v0.length:Int) then match idx v0 v2 with
   |none=>none
   |some x1=>Pref14_CutL0 v0 v3 v4 v5 f (v1 ||| (1#64 <<< ((BitVec.ofInt 64 x1)).toNat)) (IntKind.i64.wrap (v2+1))
   else some (v1)
def Pref14_CutL1  : Nat→List Int→BitVec 64→Int→Int→List Pl→List Pl→List Pl→Option (((List Int)×Int×(List Pl)×(List Pl))⊕((List Int)×Int×(List Pl)×(List Pl)×(List Pl)))
  |0,_,_,_,_,_,_,_=>none
  |f+1,v0,v1,v2,v3,v4,v5,v6=>
   if v2<v3 then match idx v4 v2 with
   |none=>none
   |some x1=>(if (v6.length+1)*32≤140737488355328 then Pref14_CutL1 f v0 v1 (IntKind.i64.wrap (v2+1)) v3 v4 v5 (v6++[(⟨v3,x1.X &&& v1,x1.Z &&& v1,0⟩:Pl)])
   else none)
   else some (.inr (v0,v3,v4,v5,v6))
def Pref14_CutL2  : Nat→List Int→BitVec 64→Int→Int→List Pl→List Pl→Option (((List Int)×Int×(List Pl)×(List Pl))⊕((List Int)×Int×(List Pl)×(List Pl)×(List Pl)))
  |0,_,_,_,_,_,_=>none
  |f+1,v0,v1,v2,v3,v4,v5=>
   if v2<v3 then match idx v4 v2 with
   |none=>none
   |some x1=>Pref14_CutL1 f v0 v1 (IntKind.i64.wrap (v2+1)) v3 v4 v5 ([(⟨v3,x1.X &&& v1,x1.Z &&& v1,0⟩:Pl)])
   else some (.inl (v0,v3,v4,v5))
def Pref14_Cut (F:Nat)(a0_N:Int)(a0_Stab a0_Destab:List Pl)(a1:List Int):Option (Int×Int):=
  match Pref14_Right F a0_N a0_Stab a0_Destab with|none=>none|some r1=>(bif r1 then (match Pref14_apart F a1 a0_N with|none=>none|some r2=>(bif r2 then (match Pref14_CutL0 a1 a0_N a0_Stab a0_Destab F 0#64 0 with
   |none=>none
   |some y3=>(match Pref14_CutL2 F a1 y3 0 a0_N a0_Stab a0_Destab with
   |none=>none
   |some (.inl (y4,y5,y6,y7))=>(match Pref14_reduced F ([]) y5 with|none=>none|some r13=>some (IntKind.i64.wrap ((r13.length:Int)-(y4.length:Int)),0))
   |some (.inr (y8,y9,y10,y11,y12))=>(match Pref14_reduced F y12 y9 with|none=>none|some r14=>some (IntKind.i64.wrap ((r14.length:Int)-(y8.length:Int)),0))))
   else some (0,2)))
   else some (0,140))
def Plaw14_tellsL1 (v0:List Pl)(v1 v2:Int)(v3 v4:List Pl)(v5:Int)(v6 v7:List Pl):Nat→Option Unit
  |0=>none
  |f+1=>
   if v1<(v0.length:Int) then match idx v0 v1 with
   |none=>none
   |some x1=>none
   else some ()
def Plaw14_tellsL2 (v1:Int)(v2 v3:List Pl)(v4:Int)(v5 v6:List Pl):Nat→Int→List Pl→Option Unit
  |0,_,_=>none
  |f+1,v0,v7=>
   if v0<(((v7.length:Nat):Int)) then match idx v7 v0 with
   |none=>none
   |some x1=>Plaw14_tellsL2 v1 v2 v3 v4 v5 v6 f (IntKind.i64.wrap (v0+1)) ((v7).set v0.toNat (⟨77,0#64,0#64,0⟩:Pl))
   else some ()
def Plaw14_tells (F:Nat)(a0_N:Int)(a0_Stab a0_Destab:List Pl)(a1_N:Int)(a1_Stab a1_Destab:List Pl)(a2_N:Int)(a2_X a2_Z:BitVec 64)(a2_Phase:Int)(a3:List Int):Option Bool:=
  match Plaw14_tellsL0 F a3 a0_N a0_Stab a0_Destab a1_N a1_Stab a1_Destab a2_N a2_X a2_Z a2_Phase F ((-1):Int) with
  |none=>none
  |some (.inl _)=>some false
  |some (.inr _)=>(match Ptb_Member F a0_N a0_Stab a0_Destab a2_N a2_X a2_Z a2_Phase with|none=>none|some (r1,r2)=>(match Pref14_Member F a1_N a1_Stab a1_Destab a2_N a2_X a2_Z a2_Phase with|none=>none|some (r3,r4)=>(match Ptb_Cut F a0_N a0_Stab a0_Destab a3 with|none=>none|some (r5,r6)=>(match Pref14_Cut F a1_N a1_Stab a1_Destab a3 with|none=>none|some (r7,r8)=>(match Ptb_Canon F a0_N a0_Stab a0_Destab with|none=>none|some (r9,r10)=>(if r9=[] then match Pref14_Canon F a1_N a1_Stab a1_Destab with|none=>none|some (r11,r12)=>(if r1=r3 then if (Plaw14_num r2)=r4 then if r5=r7 then if (Plaw14_num r6)=r8 then if (Plaw14_num r10)=r12 then match Pref14_SameRows F ([]) r11 with|none=>none|some r13=>(bif r13 then (match Plaw14_tellsL1 ([]) 0 a0_N a0_Stab a0_Destab a1_N a1_Stab a1_Destab F with|none=>none|some _=>(match Pref14_Alike F a0_N a0_Stab a0_Destab a1_N a1_Stab a1_Destab with|none=>none|some r14=>some r14))
   else some false)
   else some false
   else some false
   else some false
   else some false
   else some false)
   else match Pref14_Canon F a1_N a1_Stab a1_Destab with|none=>none|some (r15,r16)=>(if r1=r3 then if (Plaw14_num r2)=r4 then if r5=r7 then if (Plaw14_num r6)=r8 then if (Plaw14_num r10)=r16 then match Pref14_SameRows F r9 r15 with|none=>none|some r17=>(bif r17 then (match Plaw14_tellsL2 a0_N a0_Stab a0_Destab a1_N a1_Stab a1_Destab F 0 r9 with|none=>none|some _=>(match Pref14_Alike F a0_N a0_Stab a0_Destab a1_N a1_Stab a1_Destab with|none=>none|some r18=>some r18))
   else some false)
   else some false
   else some false
   else some false
   else some false
   else some false)))))))
def Plaw14_TableauHands (F:Nat)(a0_N:Int)(a0_Stab a0_Destab:List Pl)(a1_N:Int)(a1_Stab a1_Destab:List Pl)(a2_Kind a2_Gate:Int)(a2_Q:List Int)(a2_Value a3_N:Int)(a3_X a3_Z:BitVec 64)(a3_Phase:Int)(a4:List Int):Option Bool:=
  match Plaw14_done F a0_N a0_Stab a0_Destab a0_N a0_Stab a0_Destab a2_Kind a2_Gate a2_Q a2_Value with|none=>none|some (r1,r2,r3,r4,r5,r6,r7)=>(match Ptb_Kron F a0_N a0_Stab a0_Destab a1_N a1_Stab a1_Destab with|none=>none|some (r8,r9,r10,r11)=>(match Pref14_Kron F a0_N a0_Stab a0_Destab a1_N a1_Stab a1_Destab with|none=>none|some (r12,r13,r14,r15)=>(bif r7 then (if (Plaw14_num r11)=r15 then match Pref14_Alike F r8 r9 r10 r12 r13 r14 with|none=>none|some r16=>(bif r16 then (match Ptb_Same F a0_N a0_Stab a0_Destab a1_N a1_Stab a1_Destab with|none=>none|some r17=>(match Pref14_Same F a0_N a0_Stab a0_Destab a1_N a1_Stab a1_Destab with|none=>none|some r18=>(bif r18 then (bif r17 then (match Plaw14_tells F a0_N a0_Stab a0_Destab a0_N a0_Stab a0_Destab a3_N a3_X a3_Z a3_Phase a4 with|none=>none|some r19=>(bif r19 then some true
   else some false))
   else some false)
   else bif r17 then some false
   else match Plaw14_tells F a0_N a0_Stab a0_Destab a0_N a0_Stab a0_Destab a3_N a3_X a3_Z a3_Phase a4 with|none=>none|some r20=>(bif r20 then some true
   else some false))))
   else some false)
   else some false)
   else some false)))
def Ppauli_Commute (F:Nat)(a0_N:Int)(a0_X a0_Z:BitVec 64)(a0_Phase a1_N:Int)(a1_X a1_Z:BitVec 64)(a1_Phase:Int):Option (Bool×Int):=
  bif (Ppauli_pair a0_N a0_X a0_Z a0_Phase a1_N a1_X a1_Z a1_Phase) then (match Ppauli_times F a0_N a0_X a0_Z a0_Phase a1_N a1_X a1_Z a1_Phase with|none=>none|some (r1,r2,r3,r4)=>(match Ppauli_times F a1_N a1_X a1_Z a1_Phase a0_N a0_X a0_Z a0_Phase with|none=>none|some (r5,r6,r7,r8)=>some ((decide (r1=r5)&&(decide (r2=r6)&&(decide (r3=r7)&&decide (r4=r8)))),0)))
  else some (false,130)
def Plaw14_TableauMeasures (F:Nat)(a0_N:Int)(a0_Stab a0_Destab:List Pl)(a1 a2 a3_N:Int)(a3_X a3_Z:BitVec 64)(a3_Phase:Int):Option Bool:=
  match Ptb_Odds F a0_N a0_Stab a0_Destab a1 with|none=>none|some (r1,r2)=>(match Ptb_Project F a0_N a0_Stab a0_Destab a1 a2 with|none=>none|some (r3,r4,r5,r6)=>(if (Plaw14_num r2)=0 then if a2<0 then if (Plaw14_num r6)=0 then some false
   else some true
   else if a2>1 then if (Plaw14_num r6)=0 then some false
   else some true
   else if r1=(IntKind.i64.wrap (1-a2)) then if (Plaw14_num r6)=142 then if r3=0 then some true
   else some false
   else some false
   else match Ptb_Odds F r3 r4 r5 a1 with|none=>none|some (r7,r8)=>(match Ptb_Project F r3 r4 r5 a1 a2 with|none=>none|some (r9,r10,r11,r12)=>(match Ptb_Project F r3 r4 r5 a1 (IntKind.i64.wrap (1-a2)) with|none=>none|some (r13,r14,r15,r16)=>(if (Plaw14_num r6)=0 then if (Plaw14_num r8)=0 then if r7=a2 then if (Plaw14_num r12)=0 then match Pref14_Alike F r9 r10 r11 r3 r4 r5 with|none=>none|some r17=>(bif r17 then (if (Plaw14_num r16)=142 then match Ptb_Check F r3 r4 r5 with|none=>none|some r18=>(if (Plaw14_num r18)=0 then match Ptb_Member F a0_N a0_Stab a0_Destab a3_N a3_X a3_Z a3_Phase with|none=>none|some (r19,r20)=>(match Ptb_Member F r3 r4 r5 a3_N a3_X a3_Z a3_Phase with|none=>none|some (r21,r22)=>(match Ppauli_Commute F a3_N a3_X a3_Z a3_Phase a0_N 0#64 (1#64 <<< ((BitVec.ofInt 64 a1)).toNat) 0 with|none=>none|some (r23,r24)=>(if (Plaw14_num r20)=0 then if (Plaw14_num r22)=0 then if (Plaw14_num r24)=0 then if r19=0 then some true
   else bif r23 then (if r19=r21 then some true
   else some false)
   else some true
   else some false
   else some false
   else if r20=r22 then some true
   else some false)))
   else some false)
   else some false)
   else some false)
   else some false
   else some false
   else some false
   else some false)))
   else if (Plaw14_num r6)=0 then some false
   else some true))
def Plaw14_TableauPlaysL0 (F:Nat)(v0:List S69)(v1:List Int)(v2 v4:Int)(v5 v6:BitVec 64)(v7:Int):Nat→Int→Int→List Pl→List Pl→Int→List Pl→List Pl→Option (Unit⊕(Unit))
  |0,_,_,_,_,_,_,_=>none
  |f+1,v3,v8,v9,v10,v11,v12,v13=>
   if v3<(v0.length:Int) then if v2=0 then match Pref14_Copy v8 v9 v10 with|none=>none|some (r1,r2,r3)=>(match idx v0 v3 with
   |none=>none
   |some x4=>(match Plaw14_done F v8 v9 v10 v11 v12 v13 x4.f_Kind x4.f_Gate x4.f_Q x4.f_Value with|none=>none|some (r5,r6,r7,r8,r9,r10,r11)=>(bif r11 then (match Pref14_Alike F v8 v9 v10 r1 r2 r3 with|none=>none|some r12=>(bif r12 then (match Plaw14_tells F r5 r6 r7 r8 r9 r10 v4 v5 v6 v7 v1 with|none=>none|some r13=>(bif r13 then Plaw14_TableauPlaysL0 F v0 v1 v2 v4 v5 v6 v7 f (IntKind.i64.wrap (v3+1)) r5 r6 r7 r8 r9 r10
   else some (.inl ())))
   else some (.inl ())))
   else some (.inl ()))))
   else some (.inr ())
   else some (.inr ())
def Plaw14_TableauPlays (F:Nat)(a0:Int)(a1:List S69)(a2_N:Int)(a2_X a2_Z:BitVec 64)(a2_Phase:Int)(a3:List Int):Option Bool:=
  if (a1.length:Int)>300 then some true
  else match Ptb_New F a0 with|none=>none|some (r1,r2,r3,r4)=>(match Pref14_New F a0 with|none=>none|some (r5,r6,r7,r8)=>(if (Plaw14_num r4)=r8 then match Plaw14_TableauPlaysL0 F a1 a3 r8 a2_N a2_X a2_Z a2_Phase F 0 r1 r2 r3 r5 r6 r7 with
   |none=>none
   |some (.inl _)=>some false
   |some (.inr _)=>some true
   else some false))
end Go.Proofs.YtogkkamlmklpkaaDoor.Ab
