/- Functions of the program as plain functions, the functions alone. Written by G.py. No condition. -/
import Derived.Test.YtlgmimclpmolmaaGreatDoorK1
set_option maxRecDepth 100000
set_option maxHeartbeats 4000000
set_option linter.unusedVariables false
set_option linter.unusedSimpArgs false
namespace Go.Proofs.YtlgmimclpmolmaaGreatDoor.Ab
open Go
structure S49 where
  f_Kind:Int
  f_Gate:Int
  f_Qubits:List Int
  f_Bit:Int
  f_If:Int
  f_When:Int
  deriving DecidableEq
def Pgate_table  : ByteArray×Int×Int×Int×ByteArray×Int×Int×Int×ByteArray×Int×Int×Int×ByteArray×Int×Int×Int×ByteArray×Int×Int×Int×ByteArray×Int×Int×Int×ByteArray×Int×Int×Int×ByteArray×Int×Int×Int×ByteArray×Int×Int×Int×ByteArray×Int×Int×Int×ByteArray×Int×Int×Int×ByteArray×Int×Int×Int×ByteArray×Int×Int×Int×ByteArray×Int×Int×Int×ByteArray×Int×Int×Int×ByteArray×Int×Int×Int×ByteArray×Int×Int×Int×ByteArray×Int×Int×Int×ByteArray×Int×Int×Int×ByteArray×Int×Int×Int×ByteArray×Int×Int×Int:=
  ((⟨#[]⟩:ByteArray),0,0,0,(⟨#[105,100]⟩:ByteArray),1,0,1,(⟨#[120]⟩:ByteArray),1,0,2,(⟨#[121]⟩:ByteArray),1,0,3,(⟨#[122]⟩:ByteArray),1,0,4,(⟨#[115]⟩:ByteArray),1,0,6,(⟨#[115,100,103]⟩:ByteArray),1,0,5,(⟨#[115,120]⟩:ByteArray),1,0,8,(⟨#[115,120,100,103]⟩:ByteArray),1,0,7,(⟨#[115,121]⟩:ByteArray),1,0,10,(⟨#[115,121,100,103]⟩:ByteArray),1,0,9,(⟨#[99,120]⟩:ByteArray),2,1,11,(⟨#[99,121]⟩:ByteArray),2,1,12,(⟨#[99,122]⟩:ByteArray),2,0,13,(⟨#[115,119,97,112]⟩:ByteArray),2,0,14,(⟨#[105,115,119,97,112]⟩:ByteArray),2,0,16,(⟨#[105,115,119,97,112,100,103]⟩:ByteArray),2,0,15,(⟨#[104,104]⟩:ByteArray),2,0,17,(⟨#[99,99,120]⟩:ByteArray),3,2,18,(⟨#[99,99,122]⟩:ByteArray),3,0,19,(⟨#[99,115,119,97,112]⟩:ByteArray),3,1,20)
def Pgate_of (a0:Int):Option (ByteArray×Int×Int×Int):=
  if a0<1 then some ((⟨#[]⟩:ByteArray),0,0,0)
  else if a0>20 then some ((⟨#[]⟩:ByteArray),0,0,0)
   else match Pgate_table with
   |(r1,r2,r3,r4,r5,r6,r7,r8,r9,r10,r11,r12,r13,r14,r15,r16,r17,r18,r19,r20,r21,r22,r23,r24,r25,r26,r27,r28,r29,r30,r31,r32,r33,r34,r35,r36,r37,r38,r39,r40,r41,r42,r43,r44,r45,r46,r47,r48,r49,r50,r51,r52,r53,r54,r55,r56,r57,r58,r59,r60,r61,r62,r63,r64,r65,r66,r67,r68,r69,r70,r71,r72,r73,r74,r75,r76,r77,r78,r79,r80,r81,r82,r83,r84)=>(if a0=0 then some (r1,r2,r3,r4)
   else if a0=1 then some (r5,r6,r7,r8)
   else if a0=2 then some (r9,r10,r11,r12)
   else if a0=3 then some (r13,r14,r15,r16)
   else if a0=4 then some (r17,r18,r19,r20)
   else if a0=5 then some (r21,r22,r23,r24)
   else if a0=6 then some (r25,r26,r27,r28)
   else if a0=7 then some (r29,r30,r31,r32)
   else if a0=8 then some (r33,r34,r35,r36)
   else if a0=9 then some (r37,r38,r39,r40)
   else if a0=10 then some (r41,r42,r43,r44)
   else if a0=11 then some (r45,r46,r47,r48)
   else if a0=12 then some (r49,r50,r51,r52)
   else if a0=13 then some (r53,r54,r55,r56)
   else if a0=14 then some (r57,r58,r59,r60)
   else if a0=15 then some (r61,r62,r63,r64)
   else if a0=16 then some (r65,r66,r67,r68)
   else if a0=17 then some (r69,r70,r71,r72)
   else if a0=18 then some (r73,r74,r75,r76)
   else if a0=19 then some (r77,r78,r79,r80)
   else if a0=20 then some (r81,r82,r83,r84)
   else none)
def Pgate_Arity (a0:Int):Option Int:=
  match Pgate_of a0 with|none=>none|some (r1,r2,r3,r4)=>some r2
def Pslices_Index_intL0 (v0:List Int)(v1 v2:Int):Nat→Int→Option (Int⊕(Unit))
  |0,_=>none
  |f+1,v3=>
   if v3<v2 then match idx v0 v3 with
   |none=>none
   |some x1=>(if v1=x1 then some (.inl v3)
   else Pslices_Index_intL0 v0 v1 v2 f (IntKind.i64.wrap (v3+1)))
   else some (.inr ())
def Pslices_Index_int (F:Nat)(a0:List Int)(a1:Int):Option Int:=
  match Pslices_Index_intL0 a0 a1 (a0.length:Int) F 0 with
  |none=>none
  |some (.inl y1)=>some y1
  |some (.inr _)=>some ((-1):Int)
def Pslices_Contains_int (F:Nat)(a0:List Int)(a1:Int):Option Bool:=
  match Pslices_Index_int F a0 a1 with|none=>none|some r1=>some (decide (r1≥0))
def Pgate_CheckL0 (F:Nat)(v0:List Int)(v1:Int)(v2:List Int)(v3:Int):Nat→Int→Option (Unit⊕(Unit))
  |0,_=>none
  |f+1,v4=>
   if v4<v3 then match idx v2 v4 with
   |none=>none
   |some x1=>(if x1<0 then some (.inl ())
   else if x1≥v1 then some (.inl ())
   else if 0≤v4∧v4≤(v0.length:Int) then match Pslices_Contains_int F (v0.take v4.toNat) x1 with|none=>none|some r2=>(bif r2 then some (.inl ())
   else Pgate_CheckL0 F v0 v1 v2 v3 f (IntKind.i64.wrap (v4+1)))
   else none)
   else some (.inr ())
def Pgate_Check (F:Nat)(a0:Int)(a1:List Int)(a2:Int):Option Int:=
  match Pgate_Arity a0 with|none=>none|some r1=>(if r1=0 then some 60
   else if (a1.length:Int)=r1 then match Pgate_CheckL0 F a1 a2 a1 (a1.length:Int) F 0 with
   |none=>none
   |some (.inl _)=>some 61
   |some (.inr _)=>some 0
   else some 61)
def Pcircuit_mayL0 (F:Nat)(v0 v1:Int)(v2:List Int)(v3 v5 v6:Int)(v7:List Int)(v8 v9 v10:Int):Nat→Int→Option (Unit⊕(Unit))
  |0,_=>none
  |f+1,v4=>
   if v4<v3 then match idx v2 v4 with
   |none=>none
   |some x1=>(if x1<0 then some (.inl ())
   else if x1≥v0 then some (.inl ())
   else if 0≤v4∧v4≤(v7.length:Int) then match Pslices_Contains_int F (v7.take v4.toNat) x1 with|none=>none|some r2=>(bif r2 then some (.inl ())
   else Pcircuit_mayL0 F v0 v1 v2 v3 v5 v6 v7 v8 v9 v10 f (IntKind.i64.wrap (v4+1)))
   else none)
   else some (.inr ())
def Pcircuit_may (F:Nat)(a0_Kind a0_Gate:Int)(a0_Qubits:List Int)(a0_Bit a0_If a0_When a1 a2:Int):Option Bool:=
  if a0_Kind=1 then if a0_If=(((-1):Int)) then if a0_If≥0 then if a0_If<a2 then if a0_When=0 then match Pgate_Check F a0_Gate a0_Qubits a1 with|none=>none|some r1=>(if r1=0 then if a0_Bit=0 then some true
   else some false
   else some false)
   else match Pgate_Check F a0_Gate a0_Qubits a1 with|none=>none|some r2=>(if r2=0 then if a0_Bit=0 then some (decide (a0_When=1))
   else some false
   else some false)
   else match Pgate_Check F a0_Gate a0_Qubits a1 with|none=>none|some r3=>(if r3=0 then if a0_Bit=0 then if a0_When=0 then some true
   else some false
   else some false
   else some false)
   else match Pgate_Check F a0_Gate a0_Qubits a1 with|none=>none|some r4=>(if r4=0 then if a0_Bit=0 then if a0_When=0 then some true
   else some false
   else some false
   else some false)
   else if a0_If≥0 then if a0_If<a2 then if a0_When=0 then match Pgate_Check F a0_Gate a0_Qubits a1 with|none=>none|some r5=>(if r5=0 then if a0_Bit=0 then some true
   else some false
   else some false)
   else match Pgate_Check F a0_Gate a0_Qubits a1 with|none=>none|some r6=>(if r6=0 then if a0_Bit=0 then some (decide (a0_When=1))
   else some false
   else some false)
   else match Pgate_Check F a0_Gate a0_Qubits a1 with|none=>none|some r7=>(if r7=0 then if a0_Bit=0 then some false
   else some false
   else some false)
   else match Pgate_Check F a0_Gate a0_Qubits a1 with|none=>none|some r8=>(if r8=0 then if a0_Bit=0 then some false
   else some false
   else some false)
  else if a0_Gate=0 then if a0_If=(((-1):Int)) then if a0_When=0 then if (a0_Qubits.length:Int)=0 then some false
   else match Pcircuit_mayL0 F a1 a2 a0_Qubits (a0_Qubits.length:Int) a0_Kind a0_Gate a0_Qubits a0_Bit a0_If a0_When F 0 with
   |none=>none
   |some (.inl _)=>some false
   |some (.inr _)=>(if a0_Kind=2 then if (a0_Qubits.length:Int)=1 then if a0_Bit≥0 then some (decide (a0_Bit<a2))
   else some false
   else some false
   else if a0_Kind=3 then if (a0_Qubits.length:Int)=1 then some (decide (a0_Bit=0))
   else some false
   else if a0_Kind=4 then some (decide (a0_Bit=0))
   else some false)
   else some false
   else some false
   else some false
def Pcircuit_CheckL0 (F:Nat)(v0:List S49)(v1 v3 v4:Int)(v5:List S49):Nat→Int→Option (Int⊕(Unit))
  |0,_=>none
  |f+1,v2=>
   if v2<v1 then match idx v0 v2 with
   |none=>none
   |some x1=>(match Pcircuit_may F x1.f_Kind x1.f_Gate x1.f_Qubits x1.f_Bit x1.f_If x1.f_When v3 v4 with|none=>none|some r2=>(bif r2 then Pcircuit_CheckL0 F v0 v1 v3 v4 v5 f (IntKind.i64.wrap (v2+1))
   else some (.inl v2)))
   else some (.inr ())
def Pcircuit_Check (F:Nat)(a0_Qubits a0_Bits:Int)(a0_Ops:List S49):Option (Int×Int):=
  if a0_Qubits<0 then some (((-1):Int),80)
  else if a0_Qubits>64 then some (((-1):Int),80)
   else if a0_Bits<0 then some (((-1):Int),80)
   else if a0_Bits>64 then some (((-1):Int),80)
   else if (a0_Ops.length:Int)>4096 then some (((-1):Int),80)
   else match Pcircuit_CheckL0 F a0_Ops (a0_Ops.length:Int) a0_Qubits a0_Bits a0_Ops F 0 with
   |none=>none
   |some (.inl y1)=>some (y1,80)
   |some (.inr _)=>some (0,0)
def Pcircuit_Unitary_1 (a0_Kind a0_Gate:Int)(a0_Qubits:List Int)(a0_Bit a0_If a0_When:Int):Bool:=
  if a0_Kind=4 then false
  else if a0_Kind=1 then decide (a0_If≠(((-1):Int)))
   else true
def Pcircuit_UnitaryL0 (v0:List S49)(v1:Int):Nat→Int→Option (Int⊕(Unit))
  |0,_=>none
  |f+1,v2=>
   if v2<v1 then match idx v0 v2 with
   |none=>none
   |some x1=>(bif (Pcircuit_Unitary_1 x1.f_Kind x1.f_Gate x1.f_Qubits x1.f_Bit x1.f_If x1.f_When) then some (.inl v2)
   else Pcircuit_UnitaryL0 v0 v1 f (IntKind.i64.wrap (v2+1)))
   else some (.inr ())
def Pcircuit_Unitary (F:Nat)(a0_Qubits a0_Bits:Int)(a0_Ops:List S49):Option Bool:=
  match Pcircuit_UnitaryL0 a0_Ops (a0_Ops.length:Int) F 0 with
  |none=>none
  |some (.inl y1)=>some (!(decide (y1≥0)))
  |some (.inr _)=>some true
def Pgate_Clifford (a0:Int):Bool:=
  if a0≥1 then decide (a0≤17)
  else false
def Pcircuit_Clifford_1 (a0_Kind a0_Gate:Int)(a0_Qubits:List Int)(a0_Bit a0_If a0_When:Int):Bool:=
  if a0_Kind=1 then !((Pgate_Clifford a0_Gate))
  else false
def Pcircuit_CliffordL0 (v0:List S49)(v1:Int):Nat→Int→Option (Int⊕(Unit))
  |0,_=>none
  |f+1,v2=>
   if v2<v1 then match idx v0 v2 with
   |none=>none
   |some x1=>(bif (Pcircuit_Clifford_1 x1.f_Kind x1.f_Gate x1.f_Qubits x1.f_Bit x1.f_If x1.f_When) then some (.inl v2)
   else Pcircuit_CliffordL0 v0 v1 f (IntKind.i64.wrap (v2+1)))
   else some (.inr ())
def Pcircuit_Clifford (F:Nat)(a0_Qubits a0_Bits:Int)(a0_Ops:List S49):Option Bool:=
  match Pcircuit_CliffordL0 a0_Ops (a0_Ops.length:Int) F 0 with
  |none=>none
  |some (.inl y1)=>some (!(decide (y1≥0)))
  |some (.inr _)=>some true
def Ppauli_Check (a0_N:Int)(a0_X a0_Z:BitVec 64)(a0_Phase:Int):Int:=
  if a0_N<0 then 130
  else if a0_N>64 then 130
   else if a0_Phase<0 then 130
   else if a0_Phase>3 then 130
   else if a0_N<64 then if ((a0_X ||| a0_Z) >>> a0_N.toNat)=0#64 then 0
   else 130
   else 0
def Pgate_Inverse (a0:Int):Option Int:=
  match Pgate_of a0 with|none=>none|some (r1,r2,r3,r4)=>some r4
def Ppauli_right (a0_N:Int)(a0_X a0_Z:BitVec 64)(a0_Phase:Int):Bool:=
  decide ((Ppauli_Check a0_N a0_X a0_Z a0_Phase)=0)
def Ppauli_ThroughL0 (v0:Int)(v1 v2:List Int)(v3 v5:Int)(v6 v7:BitVec 64)(v8 v9:Int)(v10 v11:BitVec 64)(v12 v13 v16:Int):Nat→Int→BitVec 64→BitVec 64→Option ((BitVec 64)×(BitVec 64))
  |0,_,_,_=>none
  |f+1,v4,v14,v15=>
   if v4<v3 then match idx v2 v4 with
   |none=>none
   |some x1=>(if x1<0 then none
   else Ppauli_ThroughL0 v0 v1 v2 v3 v5 v6 v7 v8 v9 v10 v11 v12 v13 v16 f (IntKind.i64.wrap (v4+1)) (v14 &&& ~~~(1#64 <<< x1.toNat)) (v15 &&& ~~~(1#64 <<< x1.toNat)))
   else some (v14,v15)
def Ppauli_images (a0:Int):Option (List ByteArray):=
  if a0=0 then some ([])
  else if a0=1 then some ([((⟨#[43,88]⟩:ByteArray)),((⟨#[43,90]⟩:ByteArray))])
   else if a0=2 then some ([((⟨#[43,88]⟩:ByteArray)),((⟨#[45,90]⟩:ByteArray))])
   else if a0=3 then some ([((⟨#[45,88]⟩:ByteArray)),((⟨#[45,90]⟩:ByteArray))])
   else if a0=4 then some ([((⟨#[45,88]⟩:ByteArray)),((⟨#[43,90]⟩:ByteArray))])
   else if a0=5 then some ([((⟨#[43,89]⟩:ByteArray)),((⟨#[43,90]⟩:ByteArray))])
   else if a0=6 then some ([((⟨#[45,89]⟩:ByteArray)),((⟨#[43,90]⟩:ByteArray))])
   else if a0=7 then some ([((⟨#[43,88]⟩:ByteArray)),((⟨#[45,89]⟩:ByteArray))])
   else if a0=8 then some ([((⟨#[43,88]⟩:ByteArray)),((⟨#[43,89]⟩:ByteArray))])
   else if a0=9 then some ([((⟨#[45,90]⟩:ByteArray)),((⟨#[43,88]⟩:ByteArray))])
   else if a0=10 then some ([((⟨#[43,90]⟩:ByteArray)),((⟨#[45,88]⟩:ByteArray))])
   else if a0=11 then some ([((⟨#[43,88,88]⟩:ByteArray)),((⟨#[43,90,73]⟩:ByteArray)),((⟨#[43,73,88]⟩:ByteArray)),((⟨#[43,90,90]⟩:ByteArray))])
   else if a0=12 then some ([((⟨#[43,88,89]⟩:ByteArray)),((⟨#[43,90,73]⟩:ByteArray)),((⟨#[43,90,88]⟩:ByteArray)),((⟨#[43,90,90]⟩:ByteArray))])
   else if a0=13 then some ([((⟨#[43,88,90]⟩:ByteArray)),((⟨#[43,90,73]⟩:ByteArray)),((⟨#[43,90,88]⟩:ByteArray)),((⟨#[43,73,90]⟩:ByteArray))])
   else if a0=14 then some ([((⟨#[43,73,88]⟩:ByteArray)),((⟨#[43,73,90]⟩:ByteArray)),((⟨#[43,88,73]⟩:ByteArray)),((⟨#[43,90,73]⟩:ByteArray))])
   else if a0=15 then some ([((⟨#[43,90,89]⟩:ByteArray)),((⟨#[43,73,90]⟩:ByteArray)),((⟨#[43,89,90]⟩:ByteArray)),((⟨#[43,90,73]⟩:ByteArray))])
   else if a0=16 then some ([((⟨#[45,90,89]⟩:ByteArray)),((⟨#[43,73,90]⟩:ByteArray)),((⟨#[45,89,90]⟩:ByteArray)),((⟨#[43,90,73]⟩:ByteArray))])
   else if a0=17 then some ([((⟨#[43,90,73]⟩:ByteArray)),((⟨#[43,88,73]⟩:ByteArray)),((⟨#[43,73,90]⟩:ByteArray)),((⟨#[43,73,88]⟩:ByteArray))])
   else none
def Ppauli_code (a0_N:Int)(a0_X a0_Z:BitVec 64)(a0_Phase a1:Int):Option Int:=
  if a1<0 then none
  else some (bitop .xor .i64 (((a0_X >>> a1.toNat) &&& 1#64).toInt) (IntKind.i64.wrap (3*(((a0_Z >>> a1.toNat) &&& 1#64).toInt))))
def Pstrings_IndexByte (a0:ByteArray)(a1:Int):Int:=
  (Lib.indexByte a0.data.toList a1.toNat.toUInt8:Int)
def Ppauli_spreadL0 (v0:ByteArray)(v1:List Int)(v2 v4:Int)(v5 v6:BitVec 64)(v7 v8 v11:Int):Nat→Int→BitVec 64→BitVec 64→Option ((BitVec 64)×(BitVec 64))
  |0,_,_,_=>none
  |f+1,v3,v9,v10=>
   if v3<v2 then match idx v1 v3 with
   |none=>none
   |some x1=>(match bidx v0 (IntKind.i64.wrap (v3+1)) with
   |none=>none
   |some x2=>(if ((Pstrings_IndexByte (⟨#[73,88,89,90]⟩:ByteArray) x2))=1 then if x1<0 then none
   else if ((Pstrings_IndexByte (⟨#[73,88,89,90]⟩:ByteArray) x2))≥2 then Ppauli_spreadL0 v0 v1 v2 v4 v5 v6 v7 v8 v11 f (IntKind.i64.wrap (v3+1)) (v9 ||| (1#64 <<< x1.toNat)) (v10 ||| (1#64 <<< x1.toNat))
   else Ppauli_spreadL0 v0 v1 v2 v4 v5 v6 v7 v8 v11 f (IntKind.i64.wrap (v3+1)) (v9 ||| (1#64 <<< x1.toNat)) v10
   else if ((Pstrings_IndexByte (⟨#[73,88,89,90]⟩:ByteArray) x2))=2 then if x1<0 then none
   else if ((Pstrings_IndexByte (⟨#[73,88,89,90]⟩:ByteArray) x2))≥2 then Ppauli_spreadL0 v0 v1 v2 v4 v5 v6 v7 v8 v11 f (IntKind.i64.wrap (v3+1)) (v9 ||| (1#64 <<< x1.toNat)) (v10 ||| (1#64 <<< x1.toNat))
   else Ppauli_spreadL0 v0 v1 v2 v4 v5 v6 v7 v8 v11 f (IntKind.i64.wrap (v3+1)) (v9 ||| (1#64 <<< x1.toNat)) v10
   else if ((Pstrings_IndexByte (⟨#[73,88,89,90]⟩:ByteArray) x2))≥2 then if x1<0 then none
   else Ppauli_spreadL0 v0 v1 v2 v4 v5 v6 v7 v8 v11 f (IntKind.i64.wrap (v3+1)) v9 (v10 ||| (1#64 <<< x1.toNat))
   else Ppauli_spreadL0 v0 v1 v2 v4 v5 v6 v7 v8 v11 f (IntKind.i64.wrap (v3+1)) v9 v10))
   else some (v9,v10)
def Ppauli_spread (F:Nat)(a0:ByteArray)(a1:Int)(a2:List Int):Option (Int×(BitVec 64)×(BitVec 64)×Int):=
  match bidx a0 0 with
  |none=>none
  |some x1=>(if x1=45 then match Ppauli_spreadL0 a0 a2 (a2.length:Int) 0 0#64 0#64 0 a1 2 F 0 0#64 0#64 with
   |none=>none
   |some (y2,y3)=>some (a1,y2,y3,2)
   else match Ppauli_spreadL0 a0 a2 (a2.length:Int) 0 0#64 0#64 0 a1 0 F 0 0#64 0#64 with
   |none=>none
   |some (y4,y5)=>some (a1,y4,y5,0))
def Pbits_TrailingZeros64 (a0:BitVec 64):Option Int:=
  if a0=0#64 then some 64
  else match idx zs64 (U (((a0 &&& (-a0))*285870213051353865#64) >>> (58:Nat))) with
   |none=>none
   |some x1=>some (IntKind.i64.wrap (x1))
def Ppauli_timesL0 (v2:Int)(v3 v4:BitVec 64)(v5 v6:Int)(v7 v8:BitVec 64)(v9 v10:Int)(v11 v12:BitVec 64)(v13:Int):Nat→Int→BitVec 64→Option Int
  |0,_,_=>none
  |f+1,v0,v1=>
   if v1=0#64 then some (v0)
   else match Pbits_TrailingZeros64 v1 with|none=>none|some r1=>(match Ppauli_code v6 v7 v8 v9 r1 with|none=>none|some r2=>(match Ppauli_code v2 v3 v4 v5 r1 with|none=>none|some r3=>(if ((IntKind.i64.wrap ((IntKind.i64.wrap (r2-r3))+3)).tmod 3)=1 then Ppauli_timesL0 v2 v3 v4 v5 v6 v7 v8 v9 v10 v11 v12 v13 f (IntKind.i64.wrap (v0+1)) (v1 &&& (v1-1#64))
   else if ((IntKind.i64.wrap ((IntKind.i64.wrap (r2-r3))+3)).tmod 3)=2 then Ppauli_timesL0 v2 v3 v4 v5 v6 v7 v8 v9 v10 v11 v12 v13 f (IntKind.i64.wrap (v0+3)) (v1 &&& (v1-1#64))
   else Ppauli_timesL0 v2 v3 v4 v5 v6 v7 v8 v9 v10 v11 v12 v13 f v0 (v1 &&& (v1-1#64)))))
def Ppauli_times (F:Nat)(a0_N:Int)(a0_X a0_Z:BitVec 64)(a0_Phase a1_N:Int)(a1_X a1_Z:BitVec 64)(a1_Phase:Int):Option (Int×(BitVec 64)×(BitVec 64)×Int):=
  match Ppauli_timesL0 a0_N a0_X a0_Z a0_Phase a1_N a1_X a1_Z a1_Phase 0 0#64 0#64 0 F (IntKind.i64.wrap (a0_Phase+a1_Phase)) ((a0_X ||| a0_Z) &&& (a1_X ||| a1_Z)) with
  |none=>none
  |some y1=>some (a0_N,a0_X ^^^ a1_X,a0_Z ^^^ a1_Z,y1.tmod 4)
def Ppauli_ThroughL1 (F:Nat)(v0:List Int)(v1:List ByteArray)(v2:List Int)(v3 v5:Int)(v6 v7:BitVec 64)(v8 v9:Int)(v10 v11:BitVec 64)(v12:Int):Nat→Int→Int→BitVec 64→BitVec 64→Int→Option (Int×(BitVec 64)×(BitVec 64)×Int)
  |0,_,_,_,_,_=>none
  |f+1,v4,v13,v14,v15,v16=>
   if v4<v3 then match idx v2 v4 with
   |none=>none
   |some x1=>(match Ppauli_code v5 v6 v7 v8 x1 with|none=>none|some r2=>(if r2=2 then if r2=1 then match idx v1 (IntKind.i64.wrap (2*v4)) with
   |none=>none
   |some x3=>(match Ppauli_spread F x3 v5 v0 with|none=>none|some (r4,r5,r6,r7)=>(match Ppauli_times F v13 v14 v15 ((IntKind.i64.wrap (v16+1)).tmod 4) r4 r5 r6 r7 with|none=>none|some (r8,r9,r10,r11)=>(if r2≥2 then match idx v1 (IntKind.i64.wrap ((IntKind.i64.wrap (2*v4))+1)) with
   |none=>none
   |some x12=>(match Ppauli_spread F x12 v5 v0 with|none=>none|some (r13,r14,r15,r16)=>(match Ppauli_times F r8 r9 r10 r11 r13 r14 r15 r16 with|none=>none|some (r17,r18,r19,r20)=>Ppauli_ThroughL1 F v0 v1 v2 v3 v5 v6 v7 v8 v9 v10 v11 v12 f (IntKind.i64.wrap (v4+1)) r17 r18 r19 r20))
   else Ppauli_ThroughL1 F v0 v1 v2 v3 v5 v6 v7 v8 v9 v10 v11 v12 f (IntKind.i64.wrap (v4+1)) r8 r9 r10 r11)))
   else match idx v1 (IntKind.i64.wrap (2*v4)) with
   |none=>none
   |some x21=>(match Ppauli_spread F x21 v5 v0 with|none=>none|some (r22,r23,r24,r25)=>(match Ppauli_times F v13 v14 v15 ((IntKind.i64.wrap (v16+1)).tmod 4) r22 r23 r24 r25 with|none=>none|some (r26,r27,r28,r29)=>(if r2≥2 then match idx v1 (IntKind.i64.wrap ((IntKind.i64.wrap (2*v4))+1)) with
   |none=>none
   |some x30=>(match Ppauli_spread F x30 v5 v0 with|none=>none|some (r31,r32,r33,r34)=>(match Ppauli_times F r26 r27 r28 r29 r31 r32 r33 r34 with|none=>none|some (r35,r36,r37,r38)=>Ppauli_ThroughL1 F v0 v1 v2 v3 v5 v6 v7 v8 v9 v10 v11 v12 f (IntKind.i64.wrap (v4+1)) r35 r36 r37 r38))
   else Ppauli_ThroughL1 F v0 v1 v2 v3 v5 v6 v7 v8 v9 v10 v11 v12 f (IntKind.i64.wrap (v4+1)) r26 r27 r28 r29)))
   else if r2=1 then match idx v1 (IntKind.i64.wrap (2*v4)) with
   |none=>none
   |some x39=>(match Ppauli_spread F x39 v5 v0 with|none=>none|some (r40,r41,r42,r43)=>(match Ppauli_times F v13 v14 v15 v16 r40 r41 r42 r43 with|none=>none|some (r44,r45,r46,r47)=>(if r2≥2 then match idx v1 (IntKind.i64.wrap ((IntKind.i64.wrap (2*v4))+1)) with
   |none=>none
   |some x48=>(match Ppauli_spread F x48 v5 v0 with|none=>none|some (r49,r50,r51,r52)=>(match Ppauli_times F r44 r45 r46 r47 r49 r50 r51 r52 with|none=>none|some (r53,r54,r55,r56)=>Ppauli_ThroughL1 F v0 v1 v2 v3 v5 v6 v7 v8 v9 v10 v11 v12 f (IntKind.i64.wrap (v4+1)) r53 r54 r55 r56))
   else Ppauli_ThroughL1 F v0 v1 v2 v3 v5 v6 v7 v8 v9 v10 v11 v12 f (IntKind.i64.wrap (v4+1)) r44 r45 r46 r47)))
   else if r2≥2 then match idx v1 (IntKind.i64.wrap ((IntKind.i64.wrap (2*v4))+1)) with
   |none=>none
   |some x57=>(match Ppauli_spread F x57 v5 v0 with|none=>none|some (r58,r59,r60,r61)=>(match Ppauli_times F v13 v14 v15 v16 r58 r59 r60 r61 with|none=>none|some (r62,r63,r64,r65)=>Ppauli_ThroughL1 F v0 v1 v2 v3 v5 v6 v7 v8 v9 v10 v11 v12 f (IntKind.i64.wrap (v4+1)) r62 r63 r64 r65))
   else Ppauli_ThroughL1 F v0 v1 v2 v3 v5 v6 v7 v8 v9 v10 v11 v12 f (IntKind.i64.wrap (v4+1)) v13 v14 v15 v16))
   else some (v13,v14,v15,v16)
def Ppauli_Through (F:Nat)(a0_N:Int)(a0_X a0_Z:BitVec 64)(a0_Phase a1:Int)(a2:List Int):Option (Int×(BitVec 64)×(BitVec 64)×Int×Int):=
  bif (Ppauli_right a0_N a0_X a0_Z a0_Phase) then (bif (Pgate_Clifford a1) then (match Pgate_Check F a1 a2 a0_N with|none=>none|some r1=>(if r1=0 then match Ppauli_ThroughL0 a1 a2 a2 (a2.length:Int) a0_N a0_X a0_Z a0_Phase 0 0#64 0#64 0 a0_N a0_Phase F 0 a0_X a0_Z with
   |none=>none
   |some (y2,y3)=>(match Ppauli_images a1 with|none=>none|some r4=>(match Ppauli_ThroughL1 F a2 r4 a2 (a2.length:Int) a0_N a0_X a0_Z a0_Phase 0 0#64 0#64 0 F 0 a0_N y2 y3 a0_Phase with
   |none=>none
   |some (y5,y6,y7,y8)=>some (y5,y6,y7,y8,0)))
   else some (0,0#64,0#64,0,130)))
   else some (0,0#64,0#64,0,130))
  else some (0,0#64,0#64,0,130)
def Pexpect_carriedL0 (F:Nat)(v0:Bool)(v1 v3 v4:Int)(v5:List S49)(v10:Int)(v11 v12:BitVec 64)(v13:Int):Nat→Int→Int→BitVec 64→BitVec 64→Int→Option (Int×(BitVec 64)×(BitVec 64)×Int)
  |0,_,_,_,_,_=>none
  |f+1,v2,v6,v7,v8,v9=>
   if v2<v1 then match idx v5 v2 with
   |none=>none
   |some x1=>(bif v0 then (match idx v5 (IntKind.i64.wrap ((IntKind.i64.wrap ((v5.length:Int)-1))-v2)) with
   |none=>none
   |some x2=>(match Pgate_Inverse x2.f_Gate with|none=>none|some r3=>(if x2.f_Kind=1 then match Ppauli_Through F v6 v7 v8 v9 r3 x2.f_Qubits with|none=>none|some (r4,r5,r6,r7,r8)=>Pexpect_carriedL0 F v0 v1 v3 v4 v5 v10 v11 v12 v13 f (IntKind.i64.wrap (v2+1)) r4 r5 r6 r7
   else Pexpect_carriedL0 F v0 v1 v3 v4 v5 v10 v11 v12 v13 f (IntKind.i64.wrap (v2+1)) v6 v7 v8 v9)))
   else if x1.f_Kind=1 then match Ppauli_Through F v6 v7 v8 v9 x1.f_Gate x1.f_Qubits with|none=>none|some (r9,r10,r11,r12,r13)=>Pexpect_carriedL0 F v0 v1 v3 v4 v5 v10 v11 v12 v13 f (IntKind.i64.wrap (v2+1)) r9 r10 r11 r12
   else Pexpect_carriedL0 F v0 v1 v3 v4 v5 v10 v11 v12 v13 f (IntKind.i64.wrap (v2+1)) v6 v7 v8 v9)
   else some (v6,v7,v8,v9)
def Pexpect_carried (F:Nat)(a0_Qubits a0_Bits:Int)(a0_Ops:List S49)(a1_N:Int)(a1_X a1_Z:BitVec 64)(a1_Phase:Int)(a2:Bool):Option (Int×(BitVec 64)×(BitVec 64)×Int×Int):=
  match Pcircuit_Check F a0_Qubits a0_Bits a0_Ops with|none=>none|some (r1,r2)=>(if r2=0 then match Pcircuit_Unitary F a0_Qubits a0_Bits a0_Ops with|none=>none|some r3=>(bif r3 then (match Pcircuit_Clifford F a0_Qubits a0_Bits a0_Ops with|none=>none|some r4=>(bif r4 then (if (Ppauli_Check a1_N a1_X a1_Z a1_Phase)=0 then if a1_N=a0_Qubits then match Pexpect_carriedL0 F a2 (a0_Ops.length:Int) a0_Qubits a0_Bits a0_Ops 0 0#64 0#64 0 F 0 a1_N a1_X a1_Z a1_Phase with
   |none=>none
   |some (y5,y6,y7,y8)=>some (y5,y6,y7,y8,0)
   else some (0,0#64,0#64,0,130)
   else some (0,0#64,0#64,0,130))
   else some (0,0#64,0#64,0,220)))
   else some (0,0#64,0#64,0,220))
   else some (0,0#64,0#64,0,r2))
def Pexpect_Forth (F:Nat)(a0_Qubits a0_Bits:Int)(a0_Ops:List S49)(a1_N:Int)(a1_X a1_Z:BitVec 64)(a1_Phase:Int):Option (Int×(BitVec 64)×(BitVec 64)×Int×Int):=
  match Pexpect_carried F a0_Qubits a0_Bits a0_Ops a1_N a1_X a1_Z a1_Phase false with|none=>none|some (r1,r2,r3,r4,r5)=>some (r1,r2,r3,r4,r5)
def Pref06_Is (a0:Int):Bool:=
  if a0≥1 then decide (a0≤20)
  else false
def Pref06_Arity (a0:Int):Int:=
  bif (Pref06_Is a0) then (if a0≤10 then 1
   else if a0≤17 then 2
   else 3)
  else 0
def Pref06_CheckL0 (v0:List Int)(v1 v2:Int):Nat→Int→Option (Unit⊕(Unit))
  |0,_=>none
  |f+1,v3=>
   if v3<v2 then match idx v0 v2 with
   |none=>none
   |some x1=>(match idx v0 v3 with
   |none=>none
   |some x2=>(if x1=x2 then some (.inl ())
   else Pref06_CheckL0 v0 v1 v2 f (IntKind.i64.wrap (v3+1))))
   else some (.inr ())
def Pref06_CheckL1 (F:Nat)(v0:List Int)(v1:Int):Nat→Int→Option (Unit⊕(Unit))
  |0,_=>none
  |f+1,v2=>
   if v2<(v0.length:Int) then match idx v0 v2 with
   |none=>none
   |some x1=>(if x1<0 then some (.inl ())
   else if x1≥v1 then some (.inl ())
   else match Pref06_CheckL0 v0 v1 v2 F 0 with
   |none=>none
   |some (.inl _)=>some (.inl ())
   |some (.inr _)=>Pref06_CheckL1 F v0 v1 f (IntKind.i64.wrap (v2+1)))
   else some (.inr ())
def Pref06_Check (F:Nat)(a0:Int)(a1:List Int)(a2:Int):Option Int:=
  bif (Pref06_Is a0) then (if (a1.length:Int)=(Pref06_Arity a0) then match Pref06_CheckL1 F a1 a2 F 0 with
   |none=>none
   |some (.inl _)=>some 61
   |some (.inr _)=>some 0
   else some 61)
  else some 60
def Pref08_unlikeL0 (v0:List Int)(v1 v2:Int):Nat→Int→Option (Unit⊕(Unit))
  |0,_=>none
  |f+1,v3=>
   if v3<v2 then match idx v0 v3 with
   |none=>none
   |some x1=>(match idx v0 v2 with
   |none=>none
   |some x2=>(if x1=x2 then some (.inl ())
   else Pref08_unlikeL0 v0 v1 v2 f (IntKind.i64.wrap (v3+1))))
   else some (.inr ())
def Pref08_unlikeL1 (F:Nat)(v0:List Int)(v1:Int):Nat→Int→Option (Unit⊕(Unit))
  |0,_=>none
  |f+1,v2=>
   if v2<(v0.length:Int) then match idx v0 v2 with
   |none=>none
   |some x1=>(if x1<0 then some (.inl ())
   else if x1≥v1 then some (.inl ())
   else match Pref08_unlikeL0 v0 v1 v2 F 0 with
   |none=>none
   |some (.inl _)=>some (.inl ())
   |some (.inr _)=>Pref08_unlikeL1 F v0 v1 f (IntKind.i64.wrap (v2+1)))
   else some (.inr ())
def Pref08_unlike (F:Nat)(a0:List Int)(a1:Int):Option Bool:=
  match Pref08_unlikeL1 F a0 a1 F 0 with
  |none=>none
  |some (.inl _)=>some false
  |some (.inr _)=>some true
def Pref08_Op (F:Nat)(a0_Kind a0_Gate:Int)(a0_Qubits:List Int)(a0_Bit a0_If a0_When a1 a2:Int):Option Bool:=
  if a0_If=(((-1):Int)) then if a0_Kind=1 then match Pref06_Check F a0_Gate a0_Qubits a1 with|none=>none|some r1=>(if r1=0 then if a0_Bit=0 then if a0_When=0 then some true
   else if a0_If≥0 then if a0_If<a2 then some (decide (a0_When=1))
   else some false
   else some false
   else some false
   else some false)
   else if a0_Kind=2 then if a0_Gate=0 then if (a0_Qubits.length:Int)=1 then match Pref08_unlike F a0_Qubits a1 with|none=>none|some r2=>(bif r2 then (if a0_Bit≥0 then if a0_Bit<a2 then some (decide (a0_When=0))
   else some false
   else some false)
   else some false)
   else some false
   else some false
   else if a0_Kind=3 then if a0_Gate=0 then if (a0_Qubits.length:Int)=1 then match Pref08_unlike F a0_Qubits a1 with|none=>none|some r3=>(bif r3 then (if a0_Bit=0 then some (decide (a0_When=0))
   else some false)
   else some false)
   else some false
   else some false
   else if a0_Kind=4 then if a0_Gate=0 then if (a0_Qubits.length:Int)>0 then match Pref08_unlike F a0_Qubits a1 with|none=>none|some r4=>(bif r4 then (if a0_Bit=0 then some (decide (a0_When=0))
   else some false)
   else some false)
   else some false
   else some false
   else some false
  else if a0_Kind=1 then match Pref06_Check F a0_Gate a0_Qubits a1 with|none=>none|some r5=>(if r5=0 then if a0_Bit=0 then if a0_If≥0 then if a0_If<a2 then if a0_When=0 then some true
   else some (decide (a0_When=1))
   else some false
   else some false
   else some false
   else some false)
   else if a0_Kind=2 then if a0_Gate=0 then if (a0_Qubits.length:Int)=1 then match Pref08_unlike F a0_Qubits a1 with|none=>none|some r6=>(bif r6 then (if a0_Bit≥0 then if a0_Bit<a2 then some false
   else some false
   else some false)
   else some false)
   else some false
   else some false
   else if a0_Kind=3 then if a0_Gate=0 then if (a0_Qubits.length:Int)=1 then match Pref08_unlike F a0_Qubits a1 with|none=>none|some r7=>(bif r7 then (if a0_Bit=0 then some false
   else some false)
   else some false)
   else some false
   else some false
   else if a0_Kind=4 then if a0_Gate=0 then if (a0_Qubits.length:Int)>0 then match Pref08_unlike F a0_Qubits a1 with|none=>none|some r8=>(bif r8 then (if a0_Bit=0 then some false
   else some false)
   else some false)
   else some false
   else some false
   else some false
def Pref08_CheckL0 (F:Nat)(v1 v2:Int)(v3:List S49):Nat→Int→Option (Int⊕(Unit))
  |0,_=>none
  |f+1,v0=>
   if v0<(v3.length:Int) then match idx v3 v0 with
   |none=>none
   |some x1=>(match Pref08_Op F x1.f_Kind x1.f_Gate x1.f_Qubits x1.f_Bit x1.f_If x1.f_When v1 v2 with|none=>none|some r2=>(bif r2 then Pref08_CheckL0 F v1 v2 v3 f (IntKind.i64.wrap (v0+1))
   else some (.inl v0)))
   else some (.inr ())
def Pref08_Check (F:Nat)(a0_Qubits a0_Bits:Int)(a0_Ops:List S49):Option (Int×Int):=
  if a0_Qubits<0 then some (((-1):Int),80)
  else if a0_Qubits>64 then some (((-1):Int),80)
   else if a0_Bits<0 then some (((-1):Int),80)
   else if a0_Bits>64 then some (((-1):Int),80)
   else if (a0_Ops.length:Int)>4096 then some (((-1):Int),80)
   else match Pref08_CheckL0 F a0_Qubits a0_Bits a0_Ops F 0 with
   |none=>none
   |some (.inl y1)=>some (y1,80)
   |some (.inr _)=>some (0,0)
def Pref08_May (F:Nat)(a0_Qubits a0_Bits:Int)(a0_Ops:List S49):Option Bool:=
  match Pref08_Check F a0_Qubits a0_Bits a0_Ops with|none=>none|some (r1,r2)=>some (decide (r2=0))
def Pref08_UnitaryL0 (v1 v2:Int)(v3:List S49):Nat→Int→Option (Unit⊕(Unit))
  |0,_=>none
  |f+1,v0=>
   if v0<(v3.length:Int) then match idx v3 v0 with
   |none=>none
   |some x1=>(if x1.f_Kind=4 then Pref08_UnitaryL0 v1 v2 v3 f (IntKind.i64.wrap (v0+1))
   else if x1.f_Kind=1 then if x1.f_If=(((-1):Int)) then Pref08_UnitaryL0 v1 v2 v3 f (IntKind.i64.wrap (v0+1))
   else some (.inl ())
   else some (.inl ()))
   else some (.inr ())
def Pref08_Unitary (F:Nat)(a0_Qubits a0_Bits:Int)(a0_Ops:List S49):Option Bool:=
  match Pref08_UnitaryL0 a0_Qubits a0_Bits a0_Ops F 0 with
  |none=>none
  |some (.inl _)=>some false
  |some (.inr _)=>some true
def Pref06_Clifford (a0:Int):Bool:=
  if a0≥1 then decide (a0≤17)
  else false
def Pref08_CliffordL0 (v1 v2:Int)(v3:List S49):Nat→Int→Option (Unit⊕(Unit))
  |0,_=>none
  |f+1,v0=>
   if v0<(v3.length:Int) then match idx v3 v0 with
   |none=>none
   |some x1=>(if x1.f_Kind=1 then bif (Pref06_Clifford x1.f_Gate) then Pref08_CliffordL0 v1 v2 v3 f (IntKind.i64.wrap (v0+1))
   else some (.inl ())
   else Pref08_CliffordL0 v1 v2 v3 f (IntKind.i64.wrap (v0+1)))
   else some (.inr ())
def Pref08_Clifford (F:Nat)(a0_Qubits a0_Bits:Int)(a0_Ops:List S49):Option Bool:=
  match Pref08_CliffordL0 a0_Qubits a0_Bits a0_Ops F 0 with
  |none=>none
  |some (.inl _)=>some false
  |some (.inr _)=>some true
def Pref13_bit (a0:BitVec 64)(a1:Int):Int:=
  ((a0 >>> ((BitVec.ofInt 64 a1)).toNat) &&& 1#64).toInt
def Pref13_RightL0 (v1:Int)(v2 v3:BitVec 64)(v4:Int):Nat→Int→Option (Unit⊕(Unit))
  |0,_=>none
  |f+1,v0=>
   if v0<64 then if (Pref13_bit v2 v0)=1 then some (.inl ())
   else if (Pref13_bit v3 v0)=1 then some (.inl ())
   else Pref13_RightL0 v1 v2 v3 v4 f (IntKind.i64.wrap (v0+1))
   else some (.inr ())
def Pref13_Right (F:Nat)(a0_N:Int)(a0_X a0_Z:BitVec 64)(a0_Phase:Int):Option Bool:=
  if a0_N<0 then some false
  else if a0_N>64 then some false
   else if a0_Phase<0 then some false
   else if a0_Phase>3 then some false
   else match Pref13_RightL0 a0_N a0_X a0_Z a0_Phase F a0_N with
   |none=>none
   |some (.inl _)=>some false
   |some (.inr _)=>some true
def Pref22_carried (F:Nat)(a0_Qubits a0_Bits:Int)(a0_Ops:List S49)(a1_N:Int)(a1_X a1_Z:BitVec 64)(a1_Phase:Int):Option Int:=
  match Pref08_May F a0_Qubits a0_Bits a0_Ops with|none=>none|some r1=>(bif r1 then (match Pref08_Unitary F a0_Qubits a0_Bits a0_Ops with|none=>none|some r2=>(bif r2 then (match Pref08_Clifford F a0_Qubits a0_Bits a0_Ops with|none=>none|some r3=>(bif r3 then (match Pref13_Right F a1_N a1_X a1_Z a1_Phase with|none=>none|some r4=>(bif r4 then (if a1_N=a0_Qubits then some 0
   else some 130)
   else some 130))
   else some 220))
   else some 220))
   else some 80)
def Pref13_images (a0:Int):List ByteArray:=
  if a0=1 then [((⟨#[43,88]⟩:ByteArray)),((⟨#[43,90]⟩:ByteArray))]
  else if a0=2 then [((⟨#[43,88]⟩:ByteArray)),((⟨#[45,90]⟩:ByteArray))]
   else if a0=3 then [((⟨#[45,88]⟩:ByteArray)),((⟨#[45,90]⟩:ByteArray))]
   else if a0=4 then [((⟨#[45,88]⟩:ByteArray)),((⟨#[43,90]⟩:ByteArray))]
   else if a0=5 then [((⟨#[43,89]⟩:ByteArray)),((⟨#[43,90]⟩:ByteArray))]
   else if a0=6 then [((⟨#[45,89]⟩:ByteArray)),((⟨#[43,90]⟩:ByteArray))]
   else if a0=7 then [((⟨#[43,88]⟩:ByteArray)),((⟨#[45,89]⟩:ByteArray))]
   else if a0=8 then [((⟨#[43,88]⟩:ByteArray)),((⟨#[43,89]⟩:ByteArray))]
   else if a0=9 then [((⟨#[45,90]⟩:ByteArray)),((⟨#[43,88]⟩:ByteArray))]
   else if a0=10 then [((⟨#[43,90]⟩:ByteArray)),((⟨#[45,88]⟩:ByteArray))]
   else if a0=11 then [((⟨#[43,88,88]⟩:ByteArray)),((⟨#[43,90,73]⟩:ByteArray)),((⟨#[43,73,88]⟩:ByteArray)),((⟨#[43,90,90]⟩:ByteArray))]
   else if a0=12 then [((⟨#[43,88,89]⟩:ByteArray)),((⟨#[43,90,73]⟩:ByteArray)),((⟨#[43,90,88]⟩:ByteArray)),((⟨#[43,90,90]⟩:ByteArray))]
   else if a0=13 then [((⟨#[43,88,90]⟩:ByteArray)),((⟨#[43,90,73]⟩:ByteArray)),((⟨#[43,90,88]⟩:ByteArray)),((⟨#[43,73,90]⟩:ByteArray))]
   else if a0=14 then [((⟨#[43,73,88]⟩:ByteArray)),((⟨#[43,73,90]⟩:ByteArray)),((⟨#[43,88,73]⟩:ByteArray)),((⟨#[43,90,73]⟩:ByteArray))]
   else if a0=15 then [((⟨#[43,90,89]⟩:ByteArray)),((⟨#[43,73,90]⟩:ByteArray)),((⟨#[43,89,90]⟩:ByteArray)),((⟨#[43,90,73]⟩:ByteArray))]
   else if a0=16 then [((⟨#[45,90,89]⟩:ByteArray)),((⟨#[43,73,90]⟩:ByteArray)),((⟨#[45,89,90]⟩:ByteArray)),((⟨#[43,90,73]⟩:ByteArray))]
   else if a0=17 then [((⟨#[43,90,73]⟩:ByteArray)),((⟨#[43,88,73]⟩:ByteArray)),((⟨#[43,73,90]⟩:ByteArray)),((⟨#[43,73,88]⟩:ByteArray))]
   else []
def Pref13_ThroughL0 (v0:List Int)(v1:List ByteArray)(v3:Int)(v4 v5:BitVec 64)(v6 v7:Int)(v8 v9:BitVec 64)(v10 v11 v14:Int):Nat→Int→BitVec 64→BitVec 64→Option ((BitVec 64)×(BitVec 64))
  |0,_,_,_=>none
  |f+1,v2,v12,v13=>
   if v2<(v0.length:Int) then match idx v0 v2 with
   |none=>none
   |some x1=>Pref13_ThroughL0 v0 v1 v3 v4 v5 v6 v7 v8 v9 v10 v11 v14 f (IntKind.i64.wrap (v2+1)) (v12 &&& ~~~(1#64 <<< ((BitVec.ofInt 64 x1)).toNat)) (v13 &&& ~~~(1#64 <<< ((BitVec.ofInt 64 x1)).toNat))
   else some (v12,v13)
def Pref13_lettersL0 (v0:ByteArray)(v1:List Int)(v3:Int)(v4 v5:BitVec 64)(v6 v7 v10:Int):Nat→Int→BitVec 64→BitVec 64→Option ((BitVec 64)×(BitVec 64))
  |0,_,_,_=>none
  |f+1,v2,v8,v9=>
   if v2<(v1.length:Int) then match bidx v0 (IntKind.i64.wrap (v2+1)) with
   |none=>none
   |some x1=>(if x1=88 then match idx v1 v2 with
   |none=>none
   |some x2=>(if x1=90 then Pref13_lettersL0 v0 v1 v3 v4 v5 v6 v7 v10 f (IntKind.i64.wrap (v2+1)) (v8 ||| (1#64 <<< ((BitVec.ofInt 64 x2)).toNat)) (v9 ||| (1#64 <<< ((BitVec.ofInt 64 x2)).toNat))
   else if x1=89 then Pref13_lettersL0 v0 v1 v3 v4 v5 v6 v7 v10 f (IntKind.i64.wrap (v2+1)) (v8 ||| (1#64 <<< ((BitVec.ofInt 64 x2)).toNat)) (v9 ||| (1#64 <<< ((BitVec.ofInt 64 x2)).toNat))
   else Pref13_lettersL0 v0 v1 v3 v4 v5 v6 v7 v10 f (IntKind.i64.wrap (v2+1)) (v8 ||| (1#64 <<< ((BitVec.ofInt 64 x2)).toNat)) v9)
   else if x1=89 then match idx v1 v2 with
   |none=>none
   |some x3=>(if x1=90 then Pref13_lettersL0 v0 v1 v3 v4 v5 v6 v7 v10 f (IntKind.i64.wrap (v2+1)) (v8 ||| (1#64 <<< ((BitVec.ofInt 64 x3)).toNat)) (v9 ||| (1#64 <<< ((BitVec.ofInt 64 x3)).toNat))
   else Pref13_lettersL0 v0 v1 v3 v4 v5 v6 v7 v10 f (IntKind.i64.wrap (v2+1)) (v8 ||| (1#64 <<< ((BitVec.ofInt 64 x3)).toNat)) (v9 ||| (1#64 <<< ((BitVec.ofInt 64 x3)).toNat)))
   else if x1=90 then match idx v1 v2 with
   |none=>none
   |some x4=>Pref13_lettersL0 v0 v1 v3 v4 v5 v6 v7 v10 f (IntKind.i64.wrap (v2+1)) v8 (v9 ||| (1#64 <<< ((BitVec.ofInt 64 x4)).toNat))
   else Pref13_lettersL0 v0 v1 v3 v4 v5 v6 v7 v10 f (IntKind.i64.wrap (v2+1)) v8 v9)
   else some (v8,v9)
def Pref13_letters (F:Nat)(a0:ByteArray)(a1:Int)(a2:List Int):Option (Int×(BitVec 64)×(BitVec 64)×Int):=
  match bidx a0 0 with
  |none=>none
  |some x1=>(if x1=45 then match Pref13_lettersL0 a0 a2 0 0#64 0#64 0 a1 2 F 0 0#64 0#64 with
   |none=>none
   |some (y2,y3)=>some (a1,y2,y3,2)
   else match Pref13_lettersL0 a0 a2 0 0#64 0#64 0 a1 0 F 0 0#64 0#64 with
   |none=>none
   |some (y4,y5)=>some (a1,y4,y5,0))
def Pref13_Letter (F:Nat)(a0_N:Int)(a0_X a0_Z:BitVec 64)(a0_Phase a1:Int):Option Int:=
  match Pref13_Right F a0_N a0_X a0_Z a0_Phase with|none=>none|some r1=>(bif r1 then (if a1<0 then some 0
   else if a1≥a0_N then some 0
   else if (IntKind.i64.wrap ((IntKind.i64.wrap (2*(Pref13_bit a0_X a1)))+(Pref13_bit a0_Z a1)))=1 then some 90
   else if (IntKind.i64.wrap ((IntKind.i64.wrap (2*(Pref13_bit a0_X a1)))+(Pref13_bit a0_Z a1)))=2 then some 88
   else if (IntKind.i64.wrap ((IntKind.i64.wrap (2*(Pref13_bit a0_X a1)))+(Pref13_bit a0_Z a1)))=3 then some 89
   else some 73)
   else some 0)
def Pref13_one (a0 a1:Int):Int:=
  if a0=73 then 0
  else if a1=73 then 0
   else if a0=a1 then 0
   else if a0=88 then if a1=89 then 1
   else if a0=89 then if a1=90 then 1
   else if a0=90 then if a1=88 then 1
   else 3
   else 3
   else if a0=90 then if a1=88 then 1
   else 3
   else 3
   else if a0=89 then if a1=90 then 1
   else if a0=90 then if a1=88 then 1
   else 3
   else 3
   else if a0=90 then if a1=88 then 1
   else 3
   else 3
def Pref13_MulL0 (F:Nat)(v1:Int)(v2 v3:BitVec 64)(v4 v5:Int)(v6 v7:BitVec 64)(v8 v9:Int)(v10 v11:BitVec 64)(v12 v13:Int)(v14 v15:BitVec 64):Nat→Int→Int→Option Int
  |0,_,_=>none
  |f+1,v0,v16=>
   if v0<v1 then match Pref13_Letter F v1 v2 v3 v4 v0 with|none=>none|some r1=>(match Pref13_Letter F v5 v6 v7 v8 v0 with|none=>none|some r2=>Pref13_MulL0 F v1 v2 v3 v4 v5 v6 v7 v8 v9 v10 v11 v12 v13 v14 v15 f (IntKind.i64.wrap (v0+1)) (IntKind.i64.wrap (v16+(Pref13_one r1 r2))))
   else some (v16)
def Pref13_Mul (F:Nat)(a0_N:Int)(a0_X a0_Z:BitVec 64)(a0_Phase a1_N:Int)(a1_X a1_Z:BitVec 64)(a1_Phase:Int):Option (Int×(BitVec 64)×(BitVec 64)×Int×Int):=
  match Pref13_Right F a0_N a0_X a0_Z a0_Phase with|none=>none|some r1=>(bif r1 then (match Pref13_Right F a1_N a1_X a1_Z a1_Phase with|none=>none|some r2=>(bif r2 then (if a0_N=a1_N then match Pref13_MulL0 F a0_N a0_X a0_Z a0_Phase a1_N a1_X a1_Z a1_Phase 0 0#64 0#64 0 a0_N (a0_X ^^^ a1_X) (a0_Z ^^^ a1_Z) F 0 (IntKind.i64.wrap (a0_Phase+a1_Phase)) with
   |none=>none
   |some y3=>some (a0_N,a0_X ^^^ a1_X,a0_Z ^^^ a1_Z,y3.tmod 4,0)
   else some (0,0#64,0#64,0,130))
   else some (0,0#64,0#64,0,130)))
   else some (0,0#64,0#64,0,130))
def Pref13_ThroughL1 (F:Nat)(v0:List Int)(v1:List ByteArray)(v3:Int)(v4 v5:BitVec 64)(v6 v7:Int)(v8 v9:BitVec 64)(v10:Int):Nat→Int→Int→BitVec 64→BitVec 64→Int→Option (Int×(BitVec 64)×(BitVec 64)×Int)
  |0,_,_,_,_,_=>none
  |f+1,v2,v11,v12,v13,v14=>
   if v2<(v0.length:Int) then match idx v0 v2 with
   |none=>none
   |some x1=>(if (Pref13_bit v4 x1)=1 then match idx v1 (IntKind.i64.wrap (2*v2)) with
   |none=>none
   |some x2=>(match Pref13_letters F x2 v3 v0 with|none=>none|some (r3,r4,r5,r6)=>(match Pref13_Mul F v11 v12 v13 v14 r3 r4 r5 r6 with|none=>none|some (r7,r8,r9,r10,r11)=>(if (Pref13_bit v5 x1)=1 then match idx v1 (IntKind.i64.wrap ((IntKind.i64.wrap (2*v2))+1)) with
   |none=>none
   |some x12=>(match Pref13_letters F x12 v3 v0 with|none=>none|some (r13,r14,r15,r16)=>(match Pref13_Mul F r7 r8 r9 r10 r13 r14 r15 r16 with|none=>none|some (r17,r18,r19,r20,r21)=>Pref13_ThroughL1 F v0 v1 v3 v4 v5 v6 v7 v8 v9 v10 f (IntKind.i64.wrap (v2+1)) r17 r18 r19 ((IntKind.i64.wrap (r20+1)).tmod 4)))
   else Pref13_ThroughL1 F v0 v1 v3 v4 v5 v6 v7 v8 v9 v10 f (IntKind.i64.wrap (v2+1)) r7 r8 r9 r10)))
   else if (Pref13_bit v5 x1)=1 then match idx v1 (IntKind.i64.wrap ((IntKind.i64.wrap (2*v2))+1)) with
   |none=>none
   |some x22=>(match Pref13_letters F x22 v3 v0 with|none=>none|some (r23,r24,r25,r26)=>(match Pref13_Mul F v11 v12 v13 v14 r23 r24 r25 r26 with|none=>none|some (r27,r28,r29,r30,r31)=>Pref13_ThroughL1 F v0 v1 v3 v4 v5 v6 v7 v8 v9 v10 f (IntKind.i64.wrap (v2+1)) r27 r28 r29 r30))
   else Pref13_ThroughL1 F v0 v1 v3 v4 v5 v6 v7 v8 v9 v10 f (IntKind.i64.wrap (v2+1)) v11 v12 v13 v14)
   else some (v11,v12,v13,v14)
def Pref13_Through (F:Nat)(a0_N:Int)(a0_X a0_Z:BitVec 64)(a0_Phase a1:Int)(a2:List Int):Option (Int×(BitVec 64)×(BitVec 64)×Int×Int):=
  match Pref13_Right F a0_N a0_X a0_Z a0_Phase with|none=>none|some r1=>(bif r1 then (if ((((Pref13_images a1)).length:Int))=0 then some (0,0#64,0#64,0,130)
   else match Pref06_Check F a1 a2 a0_N with|none=>none|some r2=>(if r2=0 then match Pref13_ThroughL0 a2 (Pref13_images a1) a0_N a0_X a0_Z a0_Phase 0 0#64 0#64 0 a0_N a0_Phase F 0 a0_X a0_Z with
   |none=>none
   |some (y3,y4)=>(match Pref13_ThroughL1 F a2 (Pref13_images a1) a0_N a0_X a0_Z a0_Phase 0 0#64 0#64 0 F 0 a0_N y3 y4 a0_Phase with
   |none=>none
   |some (y5,y6,y7,y8)=>some (y5,y6,y7,y8,0))
   else some (0,0#64,0#64,0,130)))
   else some (0,0#64,0#64,0,130))
def Pref22_ForthL0 (F:Nat)(v1 v2:Int)(v3:List S49)(v8:Int)(v9 v10:BitVec 64)(v11:Int):Nat→Int→Int→BitVec 64→BitVec 64→Int→Option (Int×(BitVec 64)×(BitVec 64)×Int)
  |0,_,_,_,_,_=>none
  |f+1,v0,v4,v5,v6,v7=>
   if v0<(v3.length:Int) then match idx v3 v0 with
   |none=>none
   |some x1=>(if x1.f_Kind=1 then match Pref13_Through F v4 v5 v6 v7 x1.f_Gate x1.f_Qubits with|none=>none|some (r2,r3,r4,r5,r6)=>Pref22_ForthL0 F v1 v2 v3 v8 v9 v10 v11 f (IntKind.i64.wrap (v0+1)) r2 r3 r4 r5
   else Pref22_ForthL0 F v1 v2 v3 v8 v9 v10 v11 f (IntKind.i64.wrap (v0+1)) v4 v5 v6 v7)
   else some (v4,v5,v6,v7)
def Pref22_Forth (F:Nat)(a0_Qubits a0_Bits:Int)(a0_Ops:List S49)(a1_N:Int)(a1_X a1_Z:BitVec 64)(a1_Phase:Int):Option (Int×(BitVec 64)×(BitVec 64)×Int×Int):=
  match Pref22_carried F a0_Qubits a0_Bits a0_Ops a1_N a1_X a1_Z a1_Phase with|none=>none|some r1=>(if r1=0 then match Pref22_ForthL0 F a0_Qubits a0_Bits a0_Ops 0 0#64 0#64 0 F 0 a1_N a1_X a1_Z a1_Phase with
   |none=>none
   |some (y2,y3,y4,y5)=>some (y2,y3,y4,y5,0)
   else some (0,0#64,0#64,0,r1))
def Pexpect_Back (F:Nat)(a0_Qubits a0_Bits:Int)(a0_Ops:List S49)(a1_N:Int)(a1_X a1_Z:BitVec 64)(a1_Phase:Int):Option (Int×(BitVec 64)×(BitVec 64)×Int×Int):=
  match Pexpect_carried F a0_Qubits a0_Bits a0_Ops a1_N a1_X a1_Z a1_Phase true with|none=>none|some (r1,r2,r3,r4,r5)=>some (r1,r2,r3,r4,r5)
def Pref06_Inverse (a0:Int):Int:=
  if a0=5 then IntKind.i64.wrap (a0+1)
  else if a0=7 then IntKind.i64.wrap (a0+1)
   else if a0=9 then IntKind.i64.wrap (a0+1)
   else if a0=15 then IntKind.i64.wrap (a0+1)
   else if a0=6 then IntKind.i64.wrap (a0-1)
   else if a0=8 then IntKind.i64.wrap (a0-1)
   else if a0=10 then IntKind.i64.wrap (a0-1)
   else if a0=16 then IntKind.i64.wrap (a0-1)
   else bif (Pref06_Is a0) then a0
   else 0
def Pref22_BackL0 (F:Nat)(v1 v2:Int)(v3:List S49)(v8:Int)(v9 v10:BitVec 64)(v11:Int):Nat→Int→Int→BitVec 64→BitVec 64→Int→Option (Int×(BitVec 64)×(BitVec 64)×Int)
  |0,_,_,_,_,_=>none
  |f+1,v0,v4,v5,v6,v7=>
   if v0≥0 then match idx v3 v0 with
   |none=>none
   |some x1=>(if x1.f_Kind=1 then match Pref13_Through F v4 v5 v6 v7 (Pref06_Inverse x1.f_Gate) x1.f_Qubits with|none=>none|some (r2,r3,r4,r5,r6)=>Pref22_BackL0 F v1 v2 v3 v8 v9 v10 v11 f (IntKind.i64.wrap (v0-1)) r2 r3 r4 r5
   else Pref22_BackL0 F v1 v2 v3 v8 v9 v10 v11 f (IntKind.i64.wrap (v0-1)) v4 v5 v6 v7)
   else some (v4,v5,v6,v7)
def Pref22_Back (F:Nat)(a0_Qubits a0_Bits:Int)(a0_Ops:List S49)(a1_N:Int)(a1_X a1_Z:BitVec 64)(a1_Phase:Int):Option (Int×(BitVec 64)×(BitVec 64)×Int×Int):=
  match Pref22_carried F a0_Qubits a0_Bits a0_Ops a1_N a1_X a1_Z a1_Phase with|none=>none|some r1=>(if r1=0 then match Pref22_BackL0 F a0_Qubits a0_Bits a0_Ops 0 0#64 0#64 0 F (IntKind.i64.wrap ((a0_Ops.length:Int)-1)) a1_N a1_X a1_Z a1_Phase with
   |none=>none
   |some (y2,y3,y4,y5)=>some (y2,y3,y4,y5,0)
   else some (0,0#64,0#64,0,r1))
def Ppauli_Hermitian (a0_N:Int)(a0_X a0_Z:BitVec 64)(a0_Phase:Int):Bool:=
  bif (Ppauli_right a0_N a0_X a0_Z a0_Phase) then decide ((a0_Phase.tmod 2)=0)
  else false
def Ptableau_CheckL0 (v0 v1 v2 v4:Int)(v5 v6:List Pl)(v7:Int)(v8 v9:BitVec 64)(v10 v11:Int)(v12 v13:BitVec 64)(v14:Int):Nat→Int→Option (Unit⊕(Unit))
  |0,_=>none
  |f+1,v3=>
   if v3<v2 then if v3=0 then if v7=v4 then bif (Ppauli_Hermitian v7 v8 v9 v10) then Ptableau_CheckL0 v0 v1 v2 v4 v5 v6 v7 v8 v9 v10 v11 v12 v13 v14 f (IntKind.i64.wrap (v3+1))
   else some (.inl ())
   else some (.inl ())
   else if v3=1 then if v11=v4 then bif (Ppauli_Hermitian v11 v12 v13 v14) then Ptableau_CheckL0 v0 v1 v2 v4 v5 v6 v7 v8 v9 v10 v11 v12 v13 v14 f (IntKind.i64.wrap (v3+1))
   else some (.inl ())
   else some (.inl ())
   else none
   else some (.inr ())
def Ptableau_CheckL1 (F:Nat)(v0 v2:Int)(v3 v4:List Pl):Nat→Int→Option (Unit⊕(Unit))
  |0,_=>none
  |f+1,v1=>
   if v1<v0 then match idx v3 v1 with
   |none=>none
   |some x1=>(match idx v4 v1 with
   |none=>none
   |some x2=>(match Ptableau_CheckL0 v0 v1 2 v2 v3 v4 x1.N x1.X x1.Z x1.Ph x2.N x2.X x2.Z x2.Ph F 0 with
   |none=>none
   |some (.inl _)=>some (.inl ())
   |some (.inr _)=>Ptableau_CheckL1 F v0 v2 v3 v4 f (IntKind.i64.wrap (v1+1))))
   else some (.inr ())
def Pbits_OnesCount64 (a0:BitVec 64):Int:=
  bitop .and .i64 (((((((((((((a0 >>> (1:Nat)) &&& 6148914691236517205#64)+(a0 &&& 6148914691236517205#64)) >>> (2:Nat)) &&& 3689348814741910323#64)+((((a0 >>> (1:Nat)) &&& 6148914691236517205#64)+(a0 &&& 6148914691236517205#64)) &&& 3689348814741910323#64)) >>> (4:Nat))+((((((a0 >>> (1:Nat)) &&& 6148914691236517205#64)+(a0 &&& 6148914691236517205#64)) >>> (2:Nat)) &&& 3689348814741910323#64)+((((a0 >>> (1:Nat)) &&& 6148914691236517205#64)+(a0 &&& 6148914691236517205#64)) &&& 3689348814741910323#64))) &&& 1085102592571150095#64)+((((((((((a0 >>> (1:Nat)) &&& 6148914691236517205#64)+(a0 &&& 6148914691236517205#64)) >>> (2:Nat)) &&& 3689348814741910323#64)+((((a0 >>> (1:Nat)) &&& 6148914691236517205#64)+(a0 &&& 6148914691236517205#64)) &&& 3689348814741910323#64)) >>> (4:Nat))+((((((a0 >>> (1:Nat)) &&& 6148914691236517205#64)+(a0 &&& 6148914691236517205#64)) >>> (2:Nat)) &&& 3689348814741910323#64)+((((a0 >>> (1:Nat)) &&& 6148914691236517205#64)+(a0 &&& 6148914691236517205#64)) &&& 3689348814741910323#64))) &&& 1085102592571150095#64) >>> (8:Nat)))+(((((((((((a0 >>> (1:Nat)) &&& 6148914691236517205#64)+(a0 &&& 6148914691236517205#64)) >>> (2:Nat)) &&& 3689348814741910323#64)+((((a0 >>> (1:Nat)) &&& 6148914691236517205#64)+(a0 &&& 6148914691236517205#64)) &&& 3689348814741910323#64)) >>> (4:Nat))+((((((a0 >>> (1:Nat)) &&& 6148914691236517205#64)+(a0 &&& 6148914691236517205#64)) >>> (2:Nat)) &&& 3689348814741910323#64)+((((a0 >>> (1:Nat)) &&& 6148914691236517205#64)+(a0 &&& 6148914691236517205#64)) &&& 3689348814741910323#64))) &&& 1085102592571150095#64)+((((((((((a0 >>> (1:Nat)) &&& 6148914691236517205#64)+(a0 &&& 6148914691236517205#64)) >>> (2:Nat)) &&& 3689348814741910323#64)+((((a0 >>> (1:Nat)) &&& 6148914691236517205#64)+(a0 &&& 6148914691236517205#64)) &&& 3689348814741910323#64)) >>> (4:Nat))+((((((a0 >>> (1:Nat)) &&& 6148914691236517205#64)+(a0 &&& 6148914691236517205#64)) >>> (2:Nat)) &&& 3689348814741910323#64)+((((a0 >>> (1:Nat)) &&& 6148914691236517205#64)+(a0 &&& 6148914691236517205#64)) &&& 3689348814741910323#64))) &&& 1085102592571150095#64) >>> (8:Nat))) >>> (16:Nat)))+((((((((((((a0 >>> (1:Nat)) &&& 6148914691236517205#64)+(a0 &&& 6148914691236517205#64)) >>> (2:Nat)) &&& 3689348814741910323#64)+((((a0 >>> (1:Nat)) &&& 6148914691236517205#64)+(a0 &&& 6148914691236517205#64)) &&& 3689348814741910323#64)) >>> (4:Nat))+((((((a0 >>> (1:Nat)) &&& 6148914691236517205#64)+(a0 &&& 6148914691236517205#64)) >>> (2:Nat)) &&& 3689348814741910323#64)+((((a0 >>> (1:Nat)) &&& 6148914691236517205#64)+(a0 &&& 6148914691236517205#64)) &&& 3689348814741910323#64))) &&& 1085102592571150095#64)+((((((((((a0 >>> (1:Nat)) &&& 6148914691236517205#64)+(a0 &&& 6148914691236517205#64)) >>> (2:Nat)) &&& 3689348814741910323#64)+((((a0 >>> (1:Nat)) &&& 6148914691236517205#64)+(a0 &&& 6148914691236517205#64)) &&& 3689348814741910323#64)) >>> (4:Nat))+((((((a0 >>> (1:Nat)) &&& 6148914691236517205#64)+(a0 &&& 6148914691236517205#64)) >>> (2:Nat)) &&& 3689348814741910323#64)+((((a0 >>> (1:Nat)) &&& 6148914691236517205#64)+(a0 &&& 6148914691236517205#64)) &&& 3689348814741910323#64))) &&& 1085102592571150095#64) >>> (8:Nat)))+(((((((((((a0 >>> (1:Nat)) &&& 6148914691236517205#64)+(a0 &&& 6148914691236517205#64)) >>> (2:Nat)) &&& 3689348814741910323#64)+((((a0 >>> (1:Nat)) &&& 6148914691236517205#64)+(a0 &&& 6148914691236517205#64)) &&& 3689348814741910323#64)) >>> (4:Nat))+((((((a0 >>> (1:Nat)) &&& 6148914691236517205#64)+(a0 &&& 6148914691236517205#64)) >>> (2:Nat)) &&& 3689348814741910323#64)+((((a0 >>> (1:Nat)) &&& 6148914691236517205#64)+(a0 &&& 6148914691236517205#64)) &&& 3689348814741910323#64))) &&& 1085102592571150095#64)+((((((((((a0 >>> (1:Nat)) &&& 6148914691236517205#64)+(a0 &&& 6148914691236517205#64)) >>> (2:Nat)) &&& 3689348814741910323#64)+((((a0 >>> (1:Nat)) &&& 6148914691236517205#64)+(a0 &&& 6148914691236517205#64)) &&& 3689348814741910323#64)) >>> (4:Nat))+((((((a0 >>> (1:Nat)) &&& 6148914691236517205#64)+(a0 &&& 6148914691236517205#64)) >>> (2:Nat)) &&& 3689348814741910323#64)+((((a0 >>> (1:Nat)) &&& 6148914691236517205#64)+(a0 &&& 6148914691236517205#64)) &&& 3689348814741910323#64))) &&& 1085102592571150095#64) >>> (8:Nat))) >>> (16:Nat))) >>> (32:Nat))).toInt) 127
def Ptableau_commute (a0_N:Int)(a0_X a0_Z:BitVec 64)(a0_Phase a1_N:Int)(a1_X a1_Z:BitVec 64)(a1_Phase:Int):Bool:=
  decide (((IntKind.i64.wrap (((Pbits_OnesCount64 (a0_X &&& a1_Z)))+((Pbits_OnesCount64 (a0_Z &&& a1_X))))).tmod 2)=0)
def Ptableau_CheckL2 (v0 v1 v2 v3 v5:Int)(v6 v7:List Pl):Nat→Int→Option (Unit⊕(Unit))
  |0,_=>none
  |f+1,v4=>
   if v4<v3 then match idx v6 v0 with
   |none=>none
   |some x1=>(match idx v6 v4 with
   |none=>none
   |some x2=>(bif (Ptableau_commute x1.N x1.X x1.Z x1.Ph x2.N x2.X x2.Z x2.Ph) then (match idx v7 v0 with
   |none=>none
   |some x3=>(match idx v7 v4 with
   |none=>none
   |some x4=>(bif (Ptableau_commute x3.N x3.X x3.Z x3.Ph x4.N x4.X x4.Z x4.Ph) then (if v0=v4 then bif (Ptableau_commute x3.N x3.X x3.Z x3.Ph x2.N x2.X x2.Z x2.Ph) then some (.inl ())
   else Ptableau_CheckL2 v0 v1 v2 v3 v5 v6 v7 f (IntKind.i64.wrap (v4+1))
   else bif (Ptableau_commute x3.N x3.X x3.Z x3.Ph x2.N x2.X x2.Z x2.Ph) then Ptableau_CheckL2 v0 v1 v2 v3 v5 v6 v7 f (IntKind.i64.wrap (v4+1))
   else some (.inl ()))
   else some (.inl ()))))
   else some (.inl ())))
   else some (.inr ())
def Ptableau_CheckL3 (F:Nat)(v0 v2:Int)(v3 v4:List Pl):Nat→Int→Option (Unit⊕(Unit))
  |0,_=>none
  |f+1,v1=>
   if v1<v0 then match Ptableau_CheckL2 v1 v0 v1 v2 v2 v3 v4 F 0 with
   |none=>none
   |some (.inl _)=>some (.inl ())
   |some (.inr _)=>Ptableau_CheckL3 F v0 v2 v3 v4 f (IntKind.i64.wrap (v1+1))
   else some (.inr ())
def Ptableau_Check (F:Nat)(a0_N:Int)(a0_Stab a0_Destab:List Pl):Option Int:=
  if a0_N<0 then some 140
  else if a0_N>64 then some 140
   else if (a0_Stab.length:Int)=a0_N then if (a0_Destab.length:Int)=a0_N then match Ptableau_CheckL1 F a0_N a0_N a0_Stab a0_Destab F 0 with
   |none=>none
   |some (.inl _)=>some 140
   |some (.inr _)=>(match Ptableau_CheckL3 F a0_N a0_N a0_Stab a0_Destab F 0 with
   |none=>none
   |some (.inl _)=>some 140
   |some (.inr _)=>some 0)
   else some 140
   else some 140
def Ppauli_pair (a0_N:Int)(a0_X a0_Z:BitVec 64)(a0_Phase a1_N:Int)(a1_X a1_Z:BitVec 64)(a1_Phase:Int):Bool:=
  bif (Ppauli_right a0_N a0_X a0_Z a0_Phase) then (bif (Ppauli_right a1_N a1_X a1_Z a1_Phase) then decide (a0_N=a1_N)
   else false)
  else false
def Ppauli_Mul (F:Nat)(a0_N:Int)(a0_X a0_Z:BitVec 64)(a0_Phase a1_N:Int)(a1_X a1_Z:BitVec 64)(a1_Phase:Int):Option (Int×(BitVec 64)×(BitVec 64)×Int×Int):=
  bif (Ppauli_pair a0_N a0_X a0_Z a0_Phase a1_N a1_X a1_Z a1_Phase) then (match Ppauli_times F a0_N a0_X a0_Z a0_Phase a1_N a1_X a1_Z a1_Phase with|none=>none|some (r1,r2,r3,r4)=>some (r1,r2,r3,r4,0))
  else some (0,0#64,0#64,0,130)
def Ptableau_mul (F:Nat)(a0_N:Int)(a0_X a0_Z:BitVec 64)(a0_Phase a1_N:Int)(a1_X a1_Z:BitVec 64)(a1_Phase:Int):Option (Int×(BitVec 64)×(BitVec 64)×Int):=
  match Ppauli_Mul F a0_N a0_X a0_Z a0_Phase a1_N a1_X a1_Z a1_Phase with|none=>none|some (r1,r2,r3,r4,r5)=>some (r1,r2,r3,r4)
def Ptableau_sureL0 (F:Nat)(v0:List Pl)(v1 v3:Int)(v4 v5:List Pl)(v6:Int)(v7 v8:BitVec 64)(v9 v10:Int)(v11 v12:BitVec 64)(v13:Int):Nat→Int→Int→BitVec 64→BitVec 64→Int→Option (Int×(BitVec 64)×(BitVec 64)×Int)
  |0,_,_,_,_,_=>none
  |f+1,v2,v14,v15,v16,v17=>
   if v2<v1 then match idx v0 v2 with
   |none=>none
   |some x1=>(bif (Ptableau_commute x1.N x1.X x1.Z x1.Ph v6 v7 v8 v9) then Ptableau_sureL0 F v0 v1 v3 v4 v5 v6 v7 v8 v9 v10 v11 v12 v13 f (IntKind.i64.wrap (v2+1)) v14 v15 v16 v17
   else match idx v4 v2 with
   |none=>none
   |some x2=>(match Ptableau_mul F v14 v15 v16 v17 x2.N x2.X x2.Z x2.Ph with|none=>none|some (r3,r4,r5,r6)=>Ptableau_sureL0 F v0 v1 v3 v4 v5 v6 v7 v8 v9 v10 v11 v12 v13 f (IntKind.i64.wrap (v2+1)) r3 r4 r5 r6))
   else some (v14,v15,v16,v17)
def Ptableau_sure (F:Nat)(a0_N:Int)(a0_Stab a0_Destab:List Pl)(a1_N:Int)(a1_X a1_Z:BitVec 64)(a1_Phase:Int):Option (Int×(BitVec 64)×(BitVec 64)×Int):=
  match Ptableau_sureL0 F a0_Destab (a0_Destab.length:Int) a0_N a0_Stab a0_Destab a1_N a1_X a1_Z a1_Phase 0 0#64 0#64 0 F 0 a0_N 0#64 0#64 0 with
  |none=>none
  |some (y1,y2,y3,y4)=>some (y1,y2,y3,y4)
def Ptableau_Member (F:Nat)(a0_N:Int)(a0_Stab a0_Destab:List Pl)(a1_N:Int)(a1_X a1_Z:BitVec 64)(a1_Phase:Int):Option (Int×Int):=
  match Ptableau_Check F a0_N a0_Stab a0_Destab with|none=>none|some r1=>(if r1=0 then if a1_N=a0_N then bif (Ppauli_Hermitian a1_N a1_X a1_Z a1_Phase) then (match Ptableau_sure F a0_N a0_Stab a0_Destab a1_N a1_X a1_Z a1_Phase with|none=>none|some (r2,r3,r4,r5)=>(if r3=a1_X then if r4=a1_Z then if r5=a1_Phase then some (1,0)
   else some (((-1):Int),0)
   else some (0,0)
   else some (0,0)))
   else some (0,2)
   else some (0,2)
   else some (0,r1))
def Pexpect_Tableau (F:Nat)(a0_N:Int)(a0_Stab a0_Destab:List Pl)(a1_N:Int)(a1_X a1_Z:BitVec 64)(a1_Phase:Int):Option (Int×Int):=
  match Ptableau_Member F a0_N a0_Stab a0_Destab a1_N a1_X a1_Z a1_Phase with|none=>none|some (r1,r2)=>some (r1,r2)
def Pref14_RightL0 (F:Nat)(v0 v1 v3:Int)(v4 v5:List Pl):Nat→Int→Option (Unit⊕(Unit))
  |0,_=>none
  |f+1,v2=>
   if v2<2 then match idx v4 v1 with
   |none=>none
   |some x1=>(if v2=1 then match idx v5 v1 with
   |none=>none
   |some x2=>(match Pref13_Right F x2.N x2.X x2.Z x2.Ph with|none=>none|some r3=>(bif r3 then (if x2.N=v0 then if (x2.Ph.tmod 2)=1 then some (.inl ())
   else Pref14_RightL0 F v0 v1 v3 v4 v5 f (IntKind.i64.wrap (v2+1))
   else some (.inl ()))
   else some (.inl ())))
   else match Pref13_Right F x1.N x1.X x1.Z x1.Ph with|none=>none|some r4=>(bif r4 then (if x1.N=v0 then if (x1.Ph.tmod 2)=1 then some (.inl ())
   else Pref14_RightL0 F v0 v1 v3 v4 v5 f (IntKind.i64.wrap (v2+1))
   else some (.inl ()))
   else some (.inl ())))
   else some (.inr ())
def Pref14_RightL1 (F:Nat)(v0 v2:Int)(v3 v4:List Pl):Nat→Int→Option (Unit⊕(Unit))
  |0,_=>none
  |f+1,v1=>
   if v1<v0 then match Pref14_RightL0 F v0 v1 v2 v3 v4 F 0 with
   |none=>none
   |some (.inl _)=>some (.inl ())
   |some (.inr _)=>Pref14_RightL1 F v0 v2 v3 v4 f (IntKind.i64.wrap (v1+1))
   else some (.inr ())
def Pref14_commuteL0  : Nat→Int→BitVec 64→Option Int
  |0,_,_=>none
  |f+1,v0,v1=>
   if v1=0#64 then some (v0)
   else Pref14_commuteL0 f (IntKind.i64.wrap (v0+1)) (v1 &&& (v1-1#64))
def Pref14_commute (F:Nat)(a0_N:Int)(a0_X a0_Z:BitVec 64)(a0_Phase a1_N:Int)(a1_X a1_Z:BitVec 64)(a1_Phase:Int):Option Bool:=
  match Pref14_commuteL0 F 0 ((a0_X &&& a1_Z) ^^^ (a0_Z &&& a1_X)) with
  |none=>none
  |some y1=>some (decide ((y1.tmod 2)=0))
def Pref14_RightL2 (F:Nat)(v0 v1 v3:Int)(v4 v5:List Pl):Nat→Int→Option (Unit⊕(Unit))
  |0,_=>none
  |f+1,v2=>
   if v2<v0 then match idx v4 v1 with
   |none=>none
   |some x1=>(match idx v4 v2 with
   |none=>none
   |some x2=>(match Pref14_commute F x1.N x1.X x1.Z x1.Ph x2.N x2.X x2.Z x2.Ph with|none=>none|some r3=>(bif r3 then (match idx v5 v1 with
   |none=>none
   |some x4=>(match idx v5 v2 with
   |none=>none
   |some x5=>(match Pref14_commute F x4.N x4.X x4.Z x4.Ph x5.N x5.X x5.Z x5.Ph with|none=>none|some r6=>(bif r6 then (match Pref14_commute F x4.N x4.X x4.Z x4.Ph x2.N x2.X x2.Z x2.Ph with|none=>none|some r7=>(if v1=v2 then bif r7 then some (.inl ())
   else Pref14_RightL2 F v0 v1 v3 v4 v5 f (IntKind.i64.wrap (v2+1))
   else bif r7 then Pref14_RightL2 F v0 v1 v3 v4 v5 f (IntKind.i64.wrap (v2+1))
   else some (.inl ())))
   else some (.inl ())))))
   else some (.inl ()))))
   else some (.inr ())
def Pref14_RightL3 (F:Nat)(v0 v2:Int)(v3 v4:List Pl):Nat→Int→Option (Unit⊕(Unit))
  |0,_=>none
  |f+1,v1=>
   if v1<v0 then match Pref14_RightL2 F v0 v1 v2 v3 v4 F 0 with
   |none=>none
   |some (.inl _)=>some (.inl ())
   |some (.inr _)=>Pref14_RightL3 F v0 v2 v3 v4 f (IntKind.i64.wrap (v1+1))
   else some (.inr ())
def Pref14_Right (F:Nat)(a0_N:Int)(a0_Stab a0_Destab:List Pl):Option Bool:=
  if a0_N<0 then some false
  else if a0_N>64 then some false
   else if (a0_Stab.length:Int)=a0_N then if (a0_Destab.length:Int)=a0_N then match Pref14_RightL1 F a0_N a0_N a0_Stab a0_Destab F 0 with
   |none=>none
   |some (.inl _)=>some false
   |some (.inr _)=>(match Pref14_RightL3 F a0_N a0_N a0_Stab a0_Destab F 0 with
   |none=>none
   |some (.inl _)=>some false
   |some (.inr _)=>some true)
   else some false
   else some false
def Pref14_looseL0 (F:Nat)(v1:Int)(v2 v3:List Pl)(v4:Int)(v5 v6:BitVec 64)(v7:Int):Nat→Int→Option (Int⊕(Unit))
  |0,_=>none
  |f+1,v0=>
   if v0<v1 then match idx v2 v0 with
   |none=>none
   |some x1=>(match Pref14_commute F x1.N x1.X x1.Z x1.Ph v4 v5 v6 v7 with|none=>none|some r2=>(bif r2 then Pref14_looseL0 F v1 v2 v3 v4 v5 v6 v7 f (IntKind.i64.wrap (v0+1))
   else some (.inl v0)))
   else some (.inr ())
def Pref14_loose (F:Nat)(a0_N:Int)(a0_Stab a0_Destab:List Pl)(a1_N:Int)(a1_X a1_Z:BitVec 64)(a1_Phase:Int):Option Int:=
  match Pref14_looseL0 F a0_N a0_Stab a0_Destab a1_N a1_X a1_Z a1_Phase F 0 with
  |none=>none
  |some (.inl y1)=>some y1
  |some (.inr _)=>some ((-1):Int)
def Pref14_times (F:Nat)(a0_N:Int)(a0_X a0_Z:BitVec 64)(a0_Phase a1_N:Int)(a1_X a1_Z:BitVec 64)(a1_Phase:Int):Option (Int×(BitVec 64)×(BitVec 64)×Int):=
  match Pref13_Mul F a0_N a0_X a0_Z a0_Phase a1_N a1_X a1_Z a1_Phase with|none=>none|some (r1,r2,r3,r4,r5)=>some (r1,r2,r3,r4)
def Pref14_signL0 (F:Nat)(v1:Int)(v2 v3:List Pl)(v4:Int)(v5 v6:BitVec 64)(v7:Int):Nat→Int→Int→BitVec 64→BitVec 64→Int→Option (Int×(BitVec 64)×(BitVec 64)×Int)
  |0,_,_,_,_,_=>none
  |f+1,v0,v8,v9,v10,v11=>
   if v0<v1 then match idx v3 v0 with
   |none=>none
   |some x1=>(match Pref14_commute F x1.N x1.X x1.Z x1.Ph v4 v5 v6 v7 with|none=>none|some r2=>(bif r2 then Pref14_signL0 F v1 v2 v3 v4 v5 v6 v7 f (IntKind.i64.wrap (v0+1)) v8 v9 v10 v11
   else match idx v2 v0 with
   |none=>none
   |some x3=>(match Pref14_times F v8 v9 v10 v11 x3.N x3.X x3.Z x3.Ph with|none=>none|some (r4,r5,r6,r7)=>Pref14_signL0 F v1 v2 v3 v4 v5 v6 v7 f (IntKind.i64.wrap (v0+1)) r4 r5 r6 r7)))
   else some (v8,v9,v10,v11)
def Pref14_sign (F:Nat)(a0_N:Int)(a0_Stab a0_Destab:List Pl)(a1_N:Int)(a1_X a1_Z:BitVec 64)(a1_Phase:Int):Option Int:=
  match Pref14_signL0 F a0_N a0_Stab a0_Destab a1_N a1_X a1_Z a1_Phase F 0 a0_N 0#64 0#64 0 with
  |none=>none
  |some (y1,y2,y3,y4)=>(if y4=a1_Phase then some 1
   else some ((-1):Int))
def Pref14_Member (F:Nat)(a0_N:Int)(a0_Stab a0_Destab:List Pl)(a1_N:Int)(a1_X a1_Z:BitVec 64)(a1_Phase:Int):Option (Int×Int):=
  match Pref14_Right F a0_N a0_Stab a0_Destab with|none=>none|some r1=>(bif r1 then (match Pref13_Right F a1_N a1_X a1_Z a1_Phase with|none=>none|some r2=>(bif r2 then (if a1_N=a0_N then if (a1_Phase.tmod 2)=1 then some (0,2)
   else match Pref14_loose F a0_N a0_Stab a0_Destab a1_N a1_X a1_Z a1_Phase with|none=>none|some r3=>(if r3≥0 then some (0,0)
   else match Pref14_sign F a0_N a0_Stab a0_Destab a1_N a1_X a1_Z a1_Phase with|none=>none|some r4=>some (r4,0))
   else some (0,2))
   else some (0,2)))
   else some (0,140))
def Plaw22_num (a0:Int):Int:=
  a0
def Plaw22_ExpectCarries (F:Nat)(a0_Qubits a0_Bits:Int)(a0_Ops:List S49)(a1_N:Int)(a1_X a1_Z:BitVec 64)(a1_Phase a2_N:Int)(a2_Stab a2_Destab:List Pl):Option Bool:=
  match Pexpect_Forth F a0_Qubits a0_Bits a0_Ops a1_N a1_X a1_Z a1_Phase with|none=>none|some (r1,r2,r3,r4,r5)=>(match Pref22_Forth F a0_Qubits a0_Bits a0_Ops a1_N a1_X a1_Z a1_Phase with|none=>none|some (r6,r7,r8,r9,r10)=>(match Pexpect_Back F a0_Qubits a0_Bits a0_Ops a1_N a1_X a1_Z a1_Phase with|none=>none|some (r11,r12,r13,r14,r15)=>(match Pref22_Back F a0_Qubits a0_Bits a0_Ops a1_N a1_X a1_Z a1_Phase with|none=>none|some (r16,r17,r18,r19,r20)=>(match Pexpect_Tableau F a2_N a2_Stab a2_Destab a1_N a1_X a1_Z a1_Phase with|none=>none|some (r21,r22)=>(match Pref14_Member F a2_N a2_Stab a2_Destab a1_N a1_X a1_Z a1_Phase with|none=>none|some (r23,r24)=>(bif (decide (r1=r6)&&(decide (r2=r7)&&(decide (r3=r8)&&decide (r4=r9)))) then (if (Plaw22_num r5)=r10 then bif (decide (r11=r16)&&(decide (r12=r17)&&(decide (r13=r18)&&decide (r14=r19)))) then (if (Plaw22_num r15)=r20 then if r21=r23 then if (Plaw22_num r22)=r24 then some true
   else some false
   else some false
   else some false)
   else some false
   else some false)
   else some false))))))
end Go.Proofs.YtlgmimclpmolmaaGreatDoor.Ab
