/- Functions of the program as plain functions, the functions alone. Written by G.py. No condition. -/
import Derived.Test.YtbbikmfjnanpmaaDoorK1
set_option maxRecDepth 100000
set_option maxHeartbeats 4000000
set_option linter.unusedVariables false
set_option linter.unusedSimpArgs false
namespace Go.Proofs.YtbbikmfjnanpmaaDoor.Ab
open Go
structure S40 where
  f_Kind:Int
  f_Gate:Int
  f_Qubits:List Int
  f_Bit:Int
  f_If:Int
  f_When:Int
  deriving DecidableEq
structure S53 where
  f_After:Int
  f_P_N:Int
  f_P_X:BitVec 64
  f_P_Z:BitVec 64
  f_P_Phase:Int
  deriving DecidableEq
def Pgate_table  : ByteArray×Int×Int×Int×ByteArray×Int×Int×Int×ByteArray×Int×Int×Int×ByteArray×Int×Int×Int×ByteArray×Int×Int×Int×ByteArray×Int×Int×Int×ByteArray×Int×Int×Int×ByteArray×Int×Int×Int×ByteArray×Int×Int×Int×ByteArray×Int×Int×Int×ByteArray×Int×Int×Int×ByteArray×Int×Int×Int×ByteArray×Int×Int×Int×ByteArray×Int×Int×Int×ByteArray×Int×Int×Int×ByteArray×Int×Int×Int×ByteArray×Int×Int×Int×ByteArray×Int×Int×Int×ByteArray×Int×Int×Int×ByteArray×Int×Int×Int×ByteArray×Int×Int×Int:=
  ((⟨#[]⟩:ByteArray),0,0,0,(⟨#[105,100]⟩:ByteArray),1,0,1,(⟨#[120]⟩:ByteArray),1,0,2,(⟨#[121]⟩:ByteArray),1,0,3,(⟨#[122]⟩:ByteArray),1,0,4,(⟨#[115]⟩:ByteArray),1,0,6,(⟨#[115,100,103]⟩:ByteArray),1,0,5,(⟨#[115,120]⟩:ByteArray),1,0,8,(⟨#[115,120,100,103]⟩:ByteArray),1,0,7,(⟨#[115,121]⟩:ByteArray),1,0,10,(⟨#[115,121,100,103]⟩:ByteArray),1,0,9,(⟨#[99,120]⟩:ByteArray),2,1,11,(⟨#[99,121]⟩:ByteArray),2,1,12,(⟨#[99,122]⟩:ByteArray),2,0,13,(⟨#[115,119,97,112]⟩:ByteArray),2,0,14,(⟨#[105,115,119,97,112]⟩:ByteArray),2,0,16,(⟨#[105,115,119,97,112,100,103]⟩:ByteArray),2,0,15,(⟨#[104,104]⟩:ByteArray),2,0,17,(⟨#[99,99,120]⟩:ByteArray),3,2,18,(⟨#[99,99,122]⟩:ByteArray),3,0,19,(⟨#[99,115,119,97,112]⟩:ByteArray),3,1,20)
def Pgate_of (a0:Int):Option (ByteArray×Int×Int×Int):=
  if a0<1 then some ((⟨#[]⟩:ByteArray),0,0,0)
  else if a0>20 then some ((⟨#[]⟩:ByteArray),0,0,0)
   else match Pgate_table with
   |(r1,r2,r3,r4,r5,r6,r7,r8,r9,r10,r11,r12,r13,r14,r15,r16,r17,r18,r19,r20,r21,r22,r23,r24,r25,r26,r27,r28,r29,r30,r31,r32,r33,r34,r35,r36,r37,r38,r39,r40,r41,r42,r43,r44,r45,r46,r47,r48,r49,r50,r51,r52,r53,r54,r55,r56,r57,r58,r59,r60,r61,r62,r63,r64,r65,r66,r67,r68,r69,r70,r71,r72,r73,r74,r75,r76,r77,r78,r79,r80,r81,r82,r83,r84)=>(if a0=0 then some (r1,r2,r3,r4)
   else if a0=1 then some (r5,r6,r7,r8)
   else if a0=2 then some (r9,r10,r11,r12)
   else if a0=3 then some (r13,r14,r15,r16)
   else if a0=4 then some (r17,r18,r19,r20)
   else if a0=5 then some (r21,r22,r23,r24)
   else if a0=6 then some (r25,r26,r27,r28)
   else if a0=7 then some (r29,r30,r31,r32)
   else if a0=8 then some (r33,r34,r35,r36)
   else if a0=9 then some (r37,r38,r39,r40)
   else if a0=10 then some (r41,r42,r43,r44)
   else if a0=11 then some (r45,r46,r47,r48)
   else if a0=12 then some (r49,r50,r51,r52)
   else if a0=13 then some (r53,r54,r55,r56)
   else if a0=14 then some (r57,r58,r59,r60)
   else if a0=15 then some (r61,r62,r63,r64)
   else if a0=16 then some (r65,r66,r67,r68)
   else if a0=17 then some (r69,r70,r71,r72)
   else if a0=18 then some (r73,r74,r75,r76)
   else if a0=19 then some (r77,r78,r79,r80)
   else if a0=20 then some (r81,r82,r83,r84)
   else none)
def Pgate_Arity (a0:Int):Option Int:=
  match Pgate_of a0 with|none=>none|some (r1,r2,r3,r4)=>some r2
def Pslices_Index_intL0 (v0:List Int)(v1 v2:Int):Nat→Int→Option (Int⊕(Unit))
  |0,_=>none
  |f+1,v3=>
   if v3<v2 then match idx v0 v3 with
   |none=>none
   |some x1=>(if v1=x1 then some (.inl v3)
   else Pslices_Index_intL0 v0 v1 v2 f (IntKind.i64.wrap (v3+1)))
   else some (.inr ())
def Pslices_Index_int (F:Nat)(a0:List Int)(a1:Int):Option Int:=
  match Pslices_Index_intL0 a0 a1 (a0.length:Int) F 0 with
  |none=>none
  |some (.inl y1)=>some y1
  |some (.inr _)=>some ((-1):Int)
def Pslices_Contains_int (F:Nat)(a0:List Int)(a1:Int):Option Bool:=
  match Pslices_Index_int F a0 a1 with|none=>none|some r1=>some (decide (r1≥0))
def Pgate_CheckL0 (F:Nat)(v0:List Int)(v1:Int)(v2:List Int)(v3:Int):Nat→Int→Option (Unit⊕(Unit))
  |0,_=>none
  |f+1,v4=>
   if v4<v3 then match idx v2 v4 with
   |none=>none
   |some x1=>(if x1<0 then some (.inl ())
   else if x1≥v1 then some (.inl ())
   else if 0≤v4∧v4≤(v0.length:Int) then match Pslices_Contains_int F (v0.take v4.toNat) x1 with|none=>none|some r2=>(bif r2 then some (.inl ())
   else Pgate_CheckL0 F v0 v1 v2 v3 f (IntKind.i64.wrap (v4+1)))
   else none)
   else some (.inr ())
def Pgate_Check (F:Nat)(a0:Int)(a1:List Int)(a2:Int):Option Int:=
  match Pgate_Arity a0 with|none=>none|some r1=>(if r1=0 then some 60
   else if (a1.length:Int)=r1 then match Pgate_CheckL0 F a1 a2 a1 (a1.length:Int) F 0 with
   |none=>none
   |some (.inl _)=>some 61
   |some (.inr _)=>some 0
   else some 61)
def Pcircuit_mayL0 (F:Nat)(v0 v1:Int)(v2:List Int)(v3 v5 v6:Int)(v7:List Int)(v8 v9 v10:Int):Nat→Int→Option (Unit⊕(Unit))
  |0,_=>none
  |f+1,v4=>
   if v4<v3 then match idx v2 v4 with
   |none=>none
   |some x1=>(if x1<0 then some (.inl ())
   else if x1≥v0 then some (.inl ())
   else if 0≤v4∧v4≤(v7.length:Int) then match Pslices_Contains_int F (v7.take v4.toNat) x1 with|none=>none|some r2=>(bif r2 then some (.inl ())
   else Pcircuit_mayL0 F v0 v1 v2 v3 v5 v6 v7 v8 v9 v10 f (IntKind.i64.wrap (v4+1)))
   else none)
   else some (.inr ())
def Pcircuit_may (F:Nat)(a0_Kind a0_Gate:Int)(a0_Qubits:List Int)(a0_Bit a0_If a0_When a1 a2:Int):Option Bool:=
  if a0_Kind=1 then if a0_If=(((-1):Int)) then if a0_If≥0 then if a0_If<a2 then if a0_When=0 then match Pgate_Check F a0_Gate a0_Qubits a1 with|none=>none|some r1=>(if r1=0 then if a0_Bit=0 then some true
   else some false
   else some false)
   else match Pgate_Check F a0_Gate a0_Qubits a1 with|none=>none|some r2=>(if r2=0 then if a0_Bit=0 then some (decide (a0_When=1))
   else some false
   else some false)
   else match Pgate_Check F a0_Gate a0_Qubits a1 with|none=>none|some r3=>(if r3=0 then if a0_Bit=0 then if a0_When=0 then some true
   else some false
   else some false
   else some false)
   else match Pgate_Check F a0_Gate a0_Qubits a1 with|none=>none|some r4=>(if r4=0 then if a0_Bit=0 then if a0_When=0 then some true
   else some false
   else some false
   else some false)
   else if a0_If≥0 then if a0_If<a2 then if a0_When=0 then match Pgate_Check F a0_Gate a0_Qubits a1 with|none=>none|some r5=>(if r5=0 then if a0_Bit=0 then some true
   else some false
   else some false)
   else match Pgate_Check F a0_Gate a0_Qubits a1 with|none=>none|some r6=>(if r6=0 then if a0_Bit=0 then some (decide (a0_When=1))
   else some false
   else some false)
   else match Pgate_Check F a0_Gate a0_Qubits a1 with|none=>none|some r7=>(if r7=0 then if a0_Bit=0 then some false
   else some false
   else some false)
   else match Pgate_Check F a0_Gate a0_Qubits a1 with|none=>none|some r8=>(if r8=0 then if a0_Bit=0 then some false
   else some false
   else some false)
  else if a0_Gate=0 then if a0_If=(((-1):Int)) then if a0_When=0 then if (a0_Qubits.length:Int)=0 then some false
   else match Pcircuit_mayL0 F a1 a2 a0_Qubits (a0_Qubits.length:Int) a0_Kind a0_Gate a0_Qubits a0_Bit a0_If a0_When F 0 with
   |none=>none
   |some (.inl _)=>some false
   |some (.inr _)=>(if a0_Kind=2 then if (a0_Qubits.length:Int)=1 then if a0_Bit≥0 then some (decide (a0_Bit<a2))
   else some false
   else some false
   else if a0_Kind=3 then if (a0_Qubits.length:Int)=1 then some (decide (a0_Bit=0))
   else some false
   else if a0_Kind=4 then some (decide (a0_Bit=0))
   else some false)
   else some false
   else some false
   else some false
def Pcircuit_CheckL0 (F:Nat)(v0:List S40)(v1 v3 v4:Int)(v5:List S40):Nat→Int→Option (Int⊕(Unit))
  |0,_=>none
  |f+1,v2=>
   if v2<v1 then match idx v0 v2 with
   |none=>none
   |some x1=>(match Pcircuit_may F x1.f_Kind x1.f_Gate x1.f_Qubits x1.f_Bit x1.f_If x1.f_When v3 v4 with|none=>none|some r2=>(bif r2 then Pcircuit_CheckL0 F v0 v1 v3 v4 v5 f (IntKind.i64.wrap (v2+1))
   else some (.inl v2)))
   else some (.inr ())
def Pcircuit_Check (F:Nat)(a0_Qubits a0_Bits:Int)(a0_Ops:List S40):Option (Int×Int):=
  if a0_Qubits<0 then some (((-1):Int),80)
  else if a0_Qubits>64 then some (((-1):Int),80)
   else if a0_Bits<0 then some (((-1):Int),80)
   else if a0_Bits>64 then some (((-1):Int),80)
   else if (a0_Ops.length:Int)>4096 then some (((-1):Int),80)
   else match Pcircuit_CheckL0 F a0_Ops (a0_Ops.length:Int) a0_Qubits a0_Bits a0_Ops F 0 with
   |none=>none
   |some (.inl y1)=>some (y1,80)
   |some (.inr _)=>some (0,0)
def Pnoise_drawn (a0 a1:BitVec 64):(BitVec 64)×(BitVec 64):=
  bif fCmp .lss (fMul a0 4613937818241073152#64) a1 then (1#64,0#64)
  else bif fCmp .lss (fMul a0 4609434218613702656#64) a1 then (0#64,1#64)
   else (1#64,1#64)
def Pnoise_DrawL0  : Nat→BitVec 64→List (BitVec 64)→Int→Int→List S40→Int→Int→List Int→Int→Int→Int→Int→List S40→List S53→Option (Unit⊕(((BitVec 64)×(List (BitVec 64))×Int×(List S40)×Int×Int×Int×Int×(List S40))⊕((BitVec 64)×(List (BitVec 64))×Int×(List S40)×Int×Int×Int×Int×(List S40)×(List S53))))
  |0,_,_,_,_,_,_,_,_,_,_,_,_,_,_=>none
  |f+1,v0,v1,v2,v3,v4,v5,v6,v7,v8,v9,v10,v11,v12,v13=>
   if v9<v8 then match idx v7 v9 with
   |none=>none
   |some x1=>(if v2≥(v1.length:Int) then some (.inl ())
   else match idx v1 v2 with
   |none=>none
   |some x2=>(bif fCmp .geq x2 0#64 then (bif fCmp .lss x2 4607182418800017408#64 then (bif fCmp .lss x2 v0 then (match Pnoise_drawn x2 v0 with
   |(r3,r4)=>(if x1<0 then none
   else if (v13.length+1)*40≤140737488355328 then Pnoise_DrawL0 f v0 v1 (IntKind.i64.wrap (v2+1)) v3 v4 v5 v6 v7 v8 (IntKind.i64.wrap (v9+1)) v10 v11 v12 (v13++[(⟨IntKind.i64.wrap (v3+1),v10,r3 <<< x1.toNat,r4 <<< x1.toNat,0⟩:S53)])
   else none))
   else Pnoise_DrawL0 f v0 v1 (IntKind.i64.wrap (v2+1)) v3 v4 v5 v6 v7 v8 (IntKind.i64.wrap (v9+1)) v10 v11 v12 v13)
   else some (.inl ()))
   else some (.inl ())))
   else some (.inr (.inr (v0,v1,v2,v4,v5,v6,v10,v11,v12,v13)))
def Pnoise_DrawL1  : Nat→BitVec 64→List (BitVec 64)→Int→Int→List S40→Int→Int→List Int→Int→Int→Int→Int→List S40→Option (Unit⊕(((BitVec 64)×(List (BitVec 64))×Int×(List S40)×Int×Int×Int×Int×(List S40))⊕((BitVec 64)×(List (BitVec 64))×Int×(List S40)×Int×Int×Int×Int×(List S40)×(List S53))))
  |0,_,_,_,_,_,_,_,_,_,_,_,_,_=>none
  |f+1,v0,v1,v2,v3,v4,v5,v6,v7,v8,v9,v10,v11,v12=>
   if v9<v8 then match idx v7 v9 with
   |none=>none
   |some x1=>(if v2≥(v1.length:Int) then some (.inl ())
   else match idx v1 v2 with
   |none=>none
   |some x2=>(bif fCmp .geq x2 0#64 then (bif fCmp .lss x2 4607182418800017408#64 then (bif fCmp .lss x2 v0 then (match Pnoise_drawn x2 v0 with
   |(r3,r4)=>(if x1<0 then none
   else Pnoise_DrawL0 f v0 v1 (IntKind.i64.wrap (v2+1)) v3 v4 v5 v6 v7 v8 (IntKind.i64.wrap (v9+1)) v10 v11 v12 ([(⟨IntKind.i64.wrap (v3+1),v10,r3 <<< x1.toNat,r4 <<< x1.toNat,0⟩:S53)])))
   else Pnoise_DrawL1 f v0 v1 (IntKind.i64.wrap (v2+1)) v3 v4 v5 v6 v7 v8 (IntKind.i64.wrap (v9+1)) v10 v11 v12)
   else some (.inl ()))
   else some (.inl ())))
   else some (.inr (.inl (v0,v1,v2,v4,v5,v6,v10,v11,v12)))
def Pnoise_DrawL2 (v0:BitVec 64)(v1:List (BitVec 64))(v3:Int)(v4:List S40)(v5 v6:Int)(v7:List Int)(v8 v10 v11:Int)(v12:List S40):Nat→Int→Int→List S53→Option (Unit⊕(Int×(List S53)))
  |0,_,_,_=>none
  |f+1,v2,v9,v13=>
   if v9<v8 then match idx v7 v9 with
   |none=>none
   |some x1=>(if v2≥(v1.length:Int) then some (.inl ())
   else match idx v1 v2 with
   |none=>none
   |some x2=>(bif fCmp .geq x2 0#64 then (bif fCmp .lss x2 4607182418800017408#64 then (bif fCmp .lss x2 v0 then (match Pnoise_drawn x2 v0 with
   |(r3,r4)=>(if x1<0 then none
   else if (v13.length+1)*40≤140737488355328 then Pnoise_DrawL2 v0 v1 v3 v4 v5 v6 v7 v8 v10 v11 v12 f (IntKind.i64.wrap (v2+1)) (IntKind.i64.wrap (v9+1)) (v13++[(⟨IntKind.i64.wrap (v3+1),v10,r3 <<< x1.toNat,r4 <<< x1.toNat,0⟩:S53)])
   else none))
   else Pnoise_DrawL2 v0 v1 v3 v4 v5 v6 v7 v8 v10 v11 v12 f (IntKind.i64.wrap (v2+1)) (IntKind.i64.wrap (v9+1)) v13)
   else some (.inl ()))
   else some (.inl ())))
   else some (.inr (v2,v13))
def Pnoise_DrawL3 (F:Nat)  : Nat→BitVec 64→List (BitVec 64)→Int→List S40→Int→Int→Int→Int→List S40→List S53→Option (Unit⊕(Int⊕(Int×(List S53))))
  |0,_,_,_,_,_,_,_,_,_,_=>none
  |f+1,v0,v1,v2,v3,v4,v5,v6,v7,v8,v9=>
   if v5<v4 then match idx v3 v5 with
   |none=>none
   |some x1=>(if x1.f_Kind=1 then match Pnoise_DrawL2 v0 v1 v5 v3 v4 v5 x1.f_Qubits (x1.f_Qubits.length:Int) v6 v7 v8 F v2 0 v9 with
   |none=>none
   |some (.inl _)=>some (.inl ())
   |some (.inr (y2,y3))=>Pnoise_DrawL3 F f v0 v1 y2 v3 v4 (IntKind.i64.wrap (v5+1)) v6 v7 v8 y3
   else Pnoise_DrawL3 F f v0 v1 v2 v3 v4 (IntKind.i64.wrap (v5+1)) v6 v7 v8 v9)
   else some (.inr (.inr (v2,v9)))
def Pnoise_DrawL4 (F:Nat)  : Nat→BitVec 64→List (BitVec 64)→Int→List S40→Int→Int→Int→Int→List S40→Option (Unit⊕(Int⊕(Int×(List S53))))
  |0,_,_,_,_,_,_,_,_,_=>none
  |f+1,v0,v1,v2,v3,v4,v5,v6,v7,v8=>
   if v5<v4 then match idx v3 v5 with
   |none=>none
   |some x1=>(if x1.f_Kind=1 then match Pnoise_DrawL1 F v0 v1 v2 v5 v3 v4 v5 x1.f_Qubits (x1.f_Qubits.length:Int) 0 v6 v7 v8 with
   |none=>none
   |some (.inl _)=>some (.inl ())
   |some (.inr (.inl (y2,y3,y4,y5,y6,y7,y8,y9,y10)))=>Pnoise_DrawL4 F f y2 y3 y4 y5 y6 (IntKind.i64.wrap (y7+1)) y8 y9 y10
   |some (.inr (.inr (y11,y12,y13,y14,y15,y16,y17,y18,y19,y20)))=>Pnoise_DrawL3 F f y11 y12 y13 y14 y15 (IntKind.i64.wrap (y16+1)) y17 y18 y19 y20
   else Pnoise_DrawL4 F f v0 v1 v2 v3 v4 (IntKind.i64.wrap (v5+1)) v6 v7 v8)
   else some (.inr (.inl v2))
def Pnoise_Draw (F:Nat)(a0_Qubits a0_Bits:Int)(a0_Ops:List S40)(a1:BitVec 64)(a2:List (BitVec 64)):Option ((List S53)×Int×Int):=
  match Pcircuit_Check F a0_Qubits a0_Bits a0_Ops with|none=>none|some (r1,r2)=>(if r2=0 then bif fCmp .geq a1 0#64 then (bif fCmp .leq a1 4607182418800017408#64 then (match Pnoise_DrawL4 F F a1 a2 0 a0_Ops (a0_Ops.length:Int) 0 a0_Qubits a0_Bits a0_Ops with
   |none=>none
   |some (.inl _)=>some ([],0,240)
   |some (.inr (.inl y3))=>some ([],y3,0)
   |some (.inr (.inr (y4,y5)))=>some (y5,y4,0))
   else some ([],0,240))
   else some ([],0,240)
   else some ([],0,r2))
def Pref06_Is (a0:Int):Bool:=
  if a0≥1 then decide (a0≤20)
  else false
def Pref06_Arity (a0:Int):Int:=
  bif (Pref06_Is a0) then (if a0≤10 then 1
   else if a0≤17 then 2
   else 3)
  else 0
def Pref06_CheckL0 (v0:List Int)(v1 v2:Int):Nat→Int→Option (Unit⊕(Unit))
  |0,_=>none
  |f+1,v3=>
   if v3<v2 then match idx v0 v2 with
   |none=>none
   |some x1=>(match idx v0 v3 with
   |none=>none
   |some x2=>(if x1=x2 then some (.inl ())
   else Pref06_CheckL0 v0 v1 v2 f (IntKind.i64.wrap (v3+1))))
   else some (.inr ())
def Pref06_CheckL1 (F:Nat)(v0:List Int)(v1:Int):Nat→Int→Option (Unit⊕(Unit))
  |0,_=>none
  |f+1,v2=>
   if v2<(v0.length:Int) then match idx v0 v2 with
   |none=>none
   |some x1=>(if x1<0 then some (.inl ())
   else if x1≥v1 then some (.inl ())
   else match Pref06_CheckL0 v0 v1 v2 F 0 with
   |none=>none
   |some (.inl _)=>some (.inl ())
   |some (.inr _)=>Pref06_CheckL1 F v0 v1 f (IntKind.i64.wrap (v2+1)))
   else some (.inr ())
def Pref06_Check (F:Nat)(a0:Int)(a1:List Int)(a2:Int):Option Int:=
  bif (Pref06_Is a0) then (if (a1.length:Int)=(Pref06_Arity a0) then match Pref06_CheckL1 F a1 a2 F 0 with
   |none=>none
   |some (.inl _)=>some 61
   |some (.inr _)=>some 0
   else some 61)
  else some 60
def Pref08_unlikeL0 (v0:List Int)(v1 v2:Int):Nat→Int→Option (Unit⊕(Unit))
  |0,_=>none
  |f+1,v3=>
   if v3<v2 then match idx v0 v3 with
   |none=>none
   |some x1=>(match idx v0 v2 with
   |none=>none
   |some x2=>(if x1=x2 then some (.inl ())
   else Pref08_unlikeL0 v0 v1 v2 f (IntKind.i64.wrap (v3+1))))
   else some (.inr ())
def Pref08_unlikeL1 (F:Nat)(v0:List Int)(v1:Int):Nat→Int→Option (Unit⊕(Unit))
  |0,_=>none
  |f+1,v2=>
   if v2<(v0.length:Int) then match idx v0 v2 with
   |none=>none
   |some x1=>(if x1<0 then some (.inl ())
   else if x1≥v1 then some (.inl ())
   else match Pref08_unlikeL0 v0 v1 v2 F 0 with
   |none=>none
   |some (.inl _)=>some (.inl ())
   |some (.inr _)=>Pref08_unlikeL1 F v0 v1 f (IntKind.i64.wrap (v2+1)))
   else some (.inr ())
def Pref08_unlike (F:Nat)(a0:List Int)(a1:Int):Option Bool:=
  match Pref08_unlikeL1 F a0 a1 F 0 with
  |none=>none
  |some (.inl _)=>some false
  |some (.inr _)=>some true
def Pref08_Op (F:Nat)(a0_Kind a0_Gate:Int)(a0_Qubits:List Int)(a0_Bit a0_If a0_When a1 a2:Int):Option Bool:=
  if a0_If=(((-1):Int)) then if a0_Kind=1 then match Pref06_Check F a0_Gate a0_Qubits a1 with|none=>none|some r1=>(if r1=0 then if a0_Bit=0 then if a0_When=0 then some true
   else if a0_If≥0 then if a0_If<a2 then some (decide (a0_When=1))
   else some false
   else some false
   else some false
   else some false)
   else if a0_Kind=2 then if a0_Gate=0 then if (a0_Qubits.length:Int)=1 then match Pref08_unlike F a0_Qubits a1 with|none=>none|some r2=>(bif r2 then (if a0_Bit≥0 then if a0_Bit<a2 then some (decide (a0_When=0))
   else some false
   else some false)
   else some false)
   else some false
   else some false
   else if a0_Kind=3 then if a0_Gate=0 then if (a0_Qubits.length:Int)=1 then match Pref08_unlike F a0_Qubits a1 with|none=>none|some r3=>(bif r3 then (if a0_Bit=0 then some (decide (a0_When=0))
   else some false)
   else some false)
   else some false
   else some false
   else if a0_Kind=4 then if a0_Gate=0 then if (a0_Qubits.length:Int)>0 then match Pref08_unlike F a0_Qubits a1 with|none=>none|some r4=>(bif r4 then (if a0_Bit=0 then some (decide (a0_When=0))
   else some false)
   else some false)
   else some false
   else some false
   else some false
  else if a0_Kind=1 then match Pref06_Check F a0_Gate a0_Qubits a1 with|none=>none|some r5=>(if r5=0 then if a0_Bit=0 then if a0_If≥0 then if a0_If<a2 then if a0_When=0 then some true
   else some (decide (a0_When=1))
   else some false
   else some false
   else some false
   else some false)
   else if a0_Kind=2 then if a0_Gate=0 then if (a0_Qubits.length:Int)=1 then match Pref08_unlike F a0_Qubits a1 with|none=>none|some r6=>(bif r6 then (if a0_Bit≥0 then if a0_Bit<a2 then some false
   else some false
   else some false)
   else some false)
   else some false
   else some false
   else if a0_Kind=3 then if a0_Gate=0 then if (a0_Qubits.length:Int)=1 then match Pref08_unlike F a0_Qubits a1 with|none=>none|some r7=>(bif r7 then (if a0_Bit=0 then some false
   else some false)
   else some false)
   else some false
   else some false
   else if a0_Kind=4 then if a0_Gate=0 then if (a0_Qubits.length:Int)>0 then match Pref08_unlike F a0_Qubits a1 with|none=>none|some r8=>(bif r8 then (if a0_Bit=0 then some false
   else some false)
   else some false)
   else some false
   else some false
   else some false
def Pref08_CheckL0 (F:Nat)(v1 v2:Int)(v3:List S40):Nat→Int→Option (Int⊕(Unit))
  |0,_=>none
  |f+1,v0=>
   if v0<(v3.length:Int) then match idx v3 v0 with
   |none=>none
   |some x1=>(match Pref08_Op F x1.f_Kind x1.f_Gate x1.f_Qubits x1.f_Bit x1.f_If x1.f_When v1 v2 with|none=>none|some r2=>(bif r2 then Pref08_CheckL0 F v1 v2 v3 f (IntKind.i64.wrap (v0+1))
   else some (.inl v0)))
   else some (.inr ())
def Pref08_Check (F:Nat)(a0_Qubits a0_Bits:Int)(a0_Ops:List S40):Option (Int×Int):=
  if a0_Qubits<0 then some (((-1):Int),80)
  else if a0_Qubits>64 then some (((-1):Int),80)
   else if a0_Bits<0 then some (((-1):Int),80)
   else if a0_Bits>64 then some (((-1):Int),80)
   else if (a0_Ops.length:Int)>4096 then some (((-1):Int),80)
   else match Pref08_CheckL0 F a0_Qubits a0_Bits a0_Ops F 0 with
   |none=>none
   |some (.inl y1)=>some (y1,80)
   |some (.inr _)=>some (0,0)
def Pref08_May (F:Nat)(a0_Qubits a0_Bits:Int)(a0_Ops:List S40):Option Bool:=
  match Pref08_Check F a0_Qubits a0_Bits a0_Ops with|none=>none|some (r1,r2)=>some (decide (r2=0))
def Pref24_DrawL0  : Nat→BitVec 64→List (BitVec 64)→Int→Int→Int→Int→Int→List S40→Int→Int→List Int→Int→Int→Int→List S53→Option (Unit⊕(((BitVec 64)×(List (BitVec 64))×Int×Int×Int×Int×(List S40))⊕((BitVec 64)×(List (BitVec 64))×Int×Int×Int×Int×(List S40)×(List S53))))
  |0,_,_,_,_,_,_,_,_,_,_,_,_,_,_,_=>none
  |f+1,v0,v1,v2,v3,v4,v5,v6,v7,v8,v9,v10,v11,v12,v13,v14=>
   if v4<(v10.length:Int) then if v8=1 then if v2≥(v1.length:Int) then some (.inl ())
   else match idx v1 v2 with
   |none=>none
   |some x1=>(bif fCmp .geq x1 0#64 then (bif fCmp .lss x1 4607182418800017408#64 then (bif fCmp .geq x1 v0 then Pref24_DrawL0 f v0 v1 (IntKind.i64.wrap (v2+1)) v3 (IntKind.i64.wrap (v4+1)) v5 v6 v7 v8 v9 v10 v11 v12 v13 v14
   else match idx v10 v4 with
   |none=>none
   |some x2=>(bif fCmp .lss (fMul x1 4613937818241073152#64) v0 then (bif fCmp .geq (fMul x1 4613937818241073152#64) v0 then (if (v14.length+1)*40≤140737488355328 then Pref24_DrawL0 f v0 v1 (IntKind.i64.wrap (v2+1)) v3 (IntKind.i64.wrap (v4+1)) v5 v6 v7 v8 v9 v10 v11 v12 v13 (v14++[(⟨IntKind.i64.wrap (v3+1),v5,1#64 <<< ((BitVec.ofInt 64 x2)).toNat,1#64 <<< ((BitVec.ofInt 64 x2)).toNat,0⟩:S53)])
   else none)
   else if (v14.length+1)*40≤140737488355328 then Pref24_DrawL0 f v0 v1 (IntKind.i64.wrap (v2+1)) v3 (IntKind.i64.wrap (v4+1)) v5 v6 v7 v8 v9 v10 v11 v12 v13 (v14++[(⟨IntKind.i64.wrap (v3+1),v5,1#64 <<< ((BitVec.ofInt 64 x2)).toNat,0#64,0⟩:S53)])
   else none)
   else bif fCmp .geq (fQuo (fMul x1 4613937818241073152#64) 4611686018427387904#64) v0 then (bif fCmp .geq (fMul x1 4613937818241073152#64) v0 then (if (v14.length+1)*40≤140737488355328 then Pref24_DrawL0 f v0 v1 (IntKind.i64.wrap (v2+1)) v3 (IntKind.i64.wrap (v4+1)) v5 v6 v7 v8 v9 v10 v11 v12 v13 (v14++[(⟨IntKind.i64.wrap (v3+1),v5,1#64 <<< ((BitVec.ofInt 64 x2)).toNat,1#64 <<< ((BitVec.ofInt 64 x2)).toNat,0⟩:S53)])
   else none)
   else if (v14.length+1)*40≤140737488355328 then Pref24_DrawL0 f v0 v1 (IntKind.i64.wrap (v2+1)) v3 (IntKind.i64.wrap (v4+1)) v5 v6 v7 v8 v9 v10 v11 v12 v13 (v14++[(⟨IntKind.i64.wrap (v3+1),v5,1#64 <<< ((BitVec.ofInt 64 x2)).toNat,0#64,0⟩:S53)])
   else none)
   else bif fCmp .geq (fMul x1 4613937818241073152#64) v0 then (if (v14.length+1)*40≤140737488355328 then Pref24_DrawL0 f v0 v1 (IntKind.i64.wrap (v2+1)) v3 (IntKind.i64.wrap (v4+1)) v5 v6 v7 v8 v9 v10 v11 v12 v13 (v14++[(⟨IntKind.i64.wrap (v3+1),v5,0#64,1#64 <<< ((BitVec.ofInt 64 x2)).toNat,0⟩:S53)])
   else none)
   else if (v14.length+1)*40≤140737488355328 then Pref24_DrawL0 f v0 v1 (IntKind.i64.wrap (v2+1)) v3 (IntKind.i64.wrap (v4+1)) v5 v6 v7 v8 v9 v10 v11 v12 v13 (v14++[(⟨IntKind.i64.wrap (v3+1),v5,0#64,0#64,0⟩:S53)])
   else none))
   else some (.inl ()))
   else some (.inl ()))
   else some (.inr (.inr (v0,v1,v2,v3,v5,v6,v7,v14)))
   else some (.inr (.inr (v0,v1,v2,v3,v5,v6,v7,v14)))
def Pref24_DrawL1  : Nat→BitVec 64→List (BitVec 64)→Int→Int→Int→Int→Int→List S40→Int→Int→List Int→Int→Int→Int→Option (Unit⊕(((BitVec 64)×(List (BitVec 64))×Int×Int×Int×Int×(List S40))⊕((BitVec 64)×(List (BitVec 64))×Int×Int×Int×Int×(List S40)×(List S53))))
  |0,_,_,_,_,_,_,_,_,_,_,_,_,_,_=>none
  |f+1,v0,v1,v2,v3,v4,v5,v6,v7,v8,v9,v10,v11,v12,v13=>
   if v4<(v10.length:Int) then if v8=1 then if v2≥(v1.length:Int) then some (.inl ())
   else match idx v1 v2 with
   |none=>none
   |some x1=>(bif fCmp .geq x1 0#64 then (bif fCmp .lss x1 4607182418800017408#64 then (bif fCmp .geq x1 v0 then Pref24_DrawL1 f v0 v1 (IntKind.i64.wrap (v2+1)) v3 (IntKind.i64.wrap (v4+1)) v5 v6 v7 v8 v9 v10 v11 v12 v13
   else match idx v10 v4 with
   |none=>none
   |some x2=>(bif fCmp .lss (fMul x1 4613937818241073152#64) v0 then (bif fCmp .geq (fMul x1 4613937818241073152#64) v0 then Pref24_DrawL0 f v0 v1 (IntKind.i64.wrap (v2+1)) v3 (IntKind.i64.wrap (v4+1)) v5 v6 v7 v8 v9 v10 v11 v12 v13 ([(⟨IntKind.i64.wrap (v3+1),v5,1#64 <<< ((BitVec.ofInt 64 x2)).toNat,1#64 <<< ((BitVec.ofInt 64 x2)).toNat,0⟩:S53)])
   else Pref24_DrawL0 f v0 v1 (IntKind.i64.wrap (v2+1)) v3 (IntKind.i64.wrap (v4+1)) v5 v6 v7 v8 v9 v10 v11 v12 v13 ([(⟨IntKind.i64.wrap (v3+1),v5,1#64 <<< ((BitVec.ofInt 64 x2)).toNat,0#64,0⟩:S53)]))
   else bif fCmp .geq (fQuo (fMul x1 4613937818241073152#64) 4611686018427387904#64) v0 then (bif fCmp .geq (fMul x1 4613937818241073152#64) v0 then Pref24_DrawL0 f v0 v1 (IntKind.i64.wrap (v2+1)) v3 (IntKind.i64.wrap (v4+1)) v5 v6 v7 v8 v9 v10 v11 v12 v13 ([(⟨IntKind.i64.wrap (v3+1),v5,1#64 <<< ((BitVec.ofInt 64 x2)).toNat,1#64 <<< ((BitVec.ofInt 64 x2)).toNat,0⟩:S53)])
   else Pref24_DrawL0 f v0 v1 (IntKind.i64.wrap (v2+1)) v3 (IntKind.i64.wrap (v4+1)) v5 v6 v7 v8 v9 v10 v11 v12 v13 ([(⟨IntKind.i64.wrap (v3+1),v5,1#64 <<< ((BitVec.ofInt 64 x2)).toNat,0#64,0⟩:S53)]))
   else bif fCmp .geq (fMul x1 4613937818241073152#64) v0 then Pref24_DrawL0 f v0 v1 (IntKind.i64.wrap (v2+1)) v3 (IntKind.i64.wrap (v4+1)) v5 v6 v7 v8 v9 v10 v11 v12 v13 ([(⟨IntKind.i64.wrap (v3+1),v5,0#64,1#64 <<< ((BitVec.ofInt 64 x2)).toNat,0⟩:S53)])
   else Pref24_DrawL0 f v0 v1 (IntKind.i64.wrap (v2+1)) v3 (IntKind.i64.wrap (v4+1)) v5 v6 v7 v8 v9 v10 v11 v12 v13 ([(⟨IntKind.i64.wrap (v3+1),v5,0#64,0#64,0⟩:S53)])))
   else some (.inl ()))
   else some (.inl ()))
   else some (.inr (.inl (v0,v1,v2,v3,v5,v6,v7)))
   else some (.inr (.inl (v0,v1,v2,v3,v5,v6,v7)))
def Pref24_DrawL2 (v0:BitVec 64)(v1:List (BitVec 64))(v3 v5 v6:Int)(v7:List S40)(v8 v9:Int)(v10:List Int)(v11 v12 v13:Int):Nat→Int→Int→List S53→Option (Unit⊕(Int×(List S53)))
  |0,_,_,_=>none
  |f+1,v2,v4,v14=>
   if v4<(v10.length:Int) then if v8=1 then if v2≥(v1.length:Int) then some (.inl ())
   else match idx v1 v2 with
   |none=>none
   |some x1=>(bif fCmp .geq x1 0#64 then (bif fCmp .lss x1 4607182418800017408#64 then (bif fCmp .geq x1 v0 then Pref24_DrawL2 v0 v1 v3 v5 v6 v7 v8 v9 v10 v11 v12 v13 f (IntKind.i64.wrap (v2+1)) (IntKind.i64.wrap (v4+1)) v14
   else match idx v10 v4 with
   |none=>none
   |some x2=>(bif fCmp .lss (fMul x1 4613937818241073152#64) v0 then (bif fCmp .geq (fMul x1 4613937818241073152#64) v0 then (if (v14.length+1)*40≤140737488355328 then Pref24_DrawL2 v0 v1 v3 v5 v6 v7 v8 v9 v10 v11 v12 v13 f (IntKind.i64.wrap (v2+1)) (IntKind.i64.wrap (v4+1)) (v14++[(⟨IntKind.i64.wrap (v3+1),v5,1#64 <<< ((BitVec.ofInt 64 x2)).toNat,1#64 <<< ((BitVec.ofInt 64 x2)).toNat,0⟩:S53)])
   else none)
   else if (v14.length+1)*40≤140737488355328 then Pref24_DrawL2 v0 v1 v3 v5 v6 v7 v8 v9 v10 v11 v12 v13 f (IntKind.i64.wrap (v2+1)) (IntKind.i64.wrap (v4+1)) (v14++[(⟨IntKind.i64.wrap (v3+1),v5,1#64 <<< ((BitVec.ofInt 64 x2)).toNat,0#64,0⟩:S53)])
   else none)
   else bif fCmp .geq (fQuo (fMul x1 4613937818241073152#64) 4611686018427387904#64) v0 then (bif fCmp .geq (fMul x1 4613937818241073152#64) v0 then (if (v14.length+1)*40≤140737488355328 then Pref24_DrawL2 v0 v1 v3 v5 v6 v7 v8 v9 v10 v11 v12 v13 f (IntKind.i64.wrap (v2+1)) (IntKind.i64.wrap (v4+1)) (v14++[(⟨IntKind.i64.wrap (v3+1),v5,1#64 <<< ((BitVec.ofInt 64 x2)).toNat,1#64 <<< ((BitVec.ofInt 64 x2)).toNat,0⟩:S53)])
   else none)
   else if (v14.length+1)*40≤140737488355328 then Pref24_DrawL2 v0 v1 v3 v5 v6 v7 v8 v9 v10 v11 v12 v13 f (IntKind.i64.wrap (v2+1)) (IntKind.i64.wrap (v4+1)) (v14++[(⟨IntKind.i64.wrap (v3+1),v5,1#64 <<< ((BitVec.ofInt 64 x2)).toNat,0#64,0⟩:S53)])
   else none)
   else bif fCmp .geq (fMul x1 4613937818241073152#64) v0 then (if (v14.length+1)*40≤140737488355328 then Pref24_DrawL2 v0 v1 v3 v5 v6 v7 v8 v9 v10 v11 v12 v13 f (IntKind.i64.wrap (v2+1)) (IntKind.i64.wrap (v4+1)) (v14++[(⟨IntKind.i64.wrap (v3+1),v5,0#64,1#64 <<< ((BitVec.ofInt 64 x2)).toNat,0⟩:S53)])
   else none)
   else if (v14.length+1)*40≤140737488355328 then Pref24_DrawL2 v0 v1 v3 v5 v6 v7 v8 v9 v10 v11 v12 v13 f (IntKind.i64.wrap (v2+1)) (IntKind.i64.wrap (v4+1)) (v14++[(⟨IntKind.i64.wrap (v3+1),v5,0#64,0#64,0⟩:S53)])
   else none))
   else some (.inl ()))
   else some (.inl ()))
   else some (.inr (v2,v14))
   else some (.inr (v2,v14))
def Pref24_DrawL3 (F:Nat)  : Nat→BitVec 64→List (BitVec 64)→Int→Int→Int→Int→List S40→List S53→Option (Unit⊕(Int⊕(Int×(List S53))))
  |0,_,_,_,_,_,_,_,_=>none
  |f+1,v0,v1,v2,v3,v4,v5,v6,v7=>
   if v3<(v6.length:Int) then match idx v6 v3 with
   |none=>none
   |some x1=>(match Pref24_DrawL2 v0 v1 v3 v4 v5 v6 x1.f_Kind x1.f_Gate x1.f_Qubits x1.f_Bit x1.f_If x1.f_When F v2 0 v7 with
   |none=>none
   |some (.inl _)=>some (.inl ())
   |some (.inr (y2,y3))=>Pref24_DrawL3 F f v0 v1 y2 (IntKind.i64.wrap (v3+1)) v4 v5 v6 y3)
   else some (.inr (.inr (v2,v7)))
def Pref24_DrawL4 (F:Nat)  : Nat→BitVec 64→List (BitVec 64)→Int→Int→Int→Int→List S40→Option (Unit⊕(Int⊕(Int×(List S53))))
  |0,_,_,_,_,_,_,_=>none
  |f+1,v0,v1,v2,v3,v4,v5,v6=>
   if v3<(v6.length:Int) then match idx v6 v3 with
   |none=>none
   |some x1=>(match Pref24_DrawL1 F v0 v1 v2 v3 0 v4 v5 v6 x1.f_Kind x1.f_Gate x1.f_Qubits x1.f_Bit x1.f_If x1.f_When with
   |none=>none
   |some (.inl _)=>some (.inl ())
   |some (.inr (.inl (y2,y3,y4,y5,y6,y7,y8)))=>Pref24_DrawL4 F f y2 y3 y4 (IntKind.i64.wrap (y5+1)) y6 y7 y8
   |some (.inr (.inr (y9,y10,y11,y12,y13,y14,y15,y16)))=>Pref24_DrawL3 F f y9 y10 y11 (IntKind.i64.wrap (y12+1)) y13 y14 y15 y16)
   else some (.inr (.inl v2))
def Pref24_Draw (F:Nat)(a0_Qubits a0_Bits:Int)(a0_Ops:List S40)(a1:BitVec 64)(a2:List (BitVec 64)):Option ((List S53)×Int×Int):=
  match Pref08_May F a0_Qubits a0_Bits a0_Ops with|none=>none|some r1=>(bif r1 then (bif fCmp .geq a1 0#64 then (bif fCmp .leq a1 4607182418800017408#64 then (match Pref24_DrawL4 F F a1 a2 0 0 a0_Qubits a0_Bits a0_Ops with
   |none=>none
   |some (.inl _)=>some ([],0,240)
   |some (.inr (.inl y2))=>some ([],y2,0)
   |some (.inr (.inr (y3,y4)))=>some (y4,y3,0))
   else some ([],0,240))
   else some ([],0,240))
   else some ([],0,80))
def Plaw24_num (a0:Int):Int:=
  a0
def Plaw24_NoiseDrawsL0 (v0:List Int)(v1 v2:List S53):Nat→Int→Option (Unit⊕(Unit))
  |0,_=>none
  |f+1,v3=>
   if v3<(v1.length:Int) then match idx v1 v3 with
   |none=>none
   |some x1=>(match idx v2 v3 with
   |none=>none
   |some x2=>(bif (decide (x1.f_After=x2.f_After)&&(decide (x1.f_P_N=x2.f_P_N)&&(decide (x1.f_P_X=x2.f_P_X)&&(decide (x1.f_P_Z=x2.f_P_Z)&&decide (x1.f_P_Phase=x2.f_P_Phase))))) then Plaw24_NoiseDrawsL0 v0 v1 v2 f (IntKind.i64.wrap (v3+1))
   else some (.inl ())))
   else some (.inr ())
def Pnoise_NumbersL0  : Nat→List Int→Int→Int→List (BitVec 64)→Option (Unit⊕(((List (BitVec 64))×Nat)⊕(List (BitVec 64))))
  |0,_,_,_,_=>none
  |f+1,v0,v1,v2,v3=>
   if v2<v1 then match idx v0 v2 with
   |none=>none
   |some x1=>(if x1=0 then if (v3.length+1)*8≤140737488355328 then Pnoise_NumbersL0 f v0 v1 (IntKind.i64.wrap (v2+1)) (v3++[(4607182418800017407#64)])
   else none
   else if x1=1 then if (v3.length+1)*8≤140737488355328 then Pnoise_NumbersL0 f v0 v1 (IntKind.i64.wrap (v2+1)) (v3++[(0#64)])
   else none
   else some (.inl ()))
   else some (.inr (.inr v3))
def Pnoise_NumbersL1  : Nat→List Int→Int→Int→List (BitVec 64)→Nat→Option (Unit⊕(((List (BitVec 64))×Nat)⊕(List (BitVec 64))))
  |0,_,_,_,_,_=>none
  |f+1,v0,v1,v2,v3,v4=>
   if v2<v1 then match idx v0 v2 with
   |none=>none
   |some x1=>(if x1=0 then if (v3.length+1)*8≤140737488355328 then if v3.length+1≤v4 then Pnoise_NumbersL1 f v0 v1 (IntKind.i64.wrap (v2+1)) (v3++[(4607182418800017407#64)]) v4
   else Pnoise_NumbersL0 f v0 v1 (IntKind.i64.wrap (v2+1)) (v3++[(4607182418800017407#64)])
   else none
   else if x1=1 then if (v3.length+1)*8≤140737488355328 then if v3.length+1≤v4 then Pnoise_NumbersL1 f v0 v1 (IntKind.i64.wrap (v2+1)) (v3++[(0#64)]) v4
   else Pnoise_NumbersL0 f v0 v1 (IntKind.i64.wrap (v2+1)) (v3++[(0#64)])
   else none
   else some (.inl ()))
   else some (.inr (.inl (v3,v4)))
def Pnoise_Numbers (F:Nat)(a0:List Int):Option ((List (BitVec 64))×Int):=
  bif mkOk 8 0 (a0.length:Int) then (match Pnoise_NumbersL1 F a0 (a0.length:Int) 0 ([]:List (BitVec 64)) a0.length with
   |none=>none
   |some (.inl _)=>some ([],240)
   |some (.inr (.inl (y1,y2)))=>some (y1,0)
   |some (.inr (.inr y3))=>some (y3,0))
  else none
def Pref24_NumbersL0  : Nat→List Int→Int→List (BitVec 64)→Option (Unit⊕(Unit⊕(List (BitVec 64))))
  |0,_,_,_=>none
  |f+1,v0,v1,v2=>
   if v1<(v0.length:Int) then match idx v0 v1 with
   |none=>none
   |some x1=>(if x1=0 then if (v2.length+1)*8≤140737488355328 then Pref24_NumbersL0 f v0 (IntKind.i64.wrap (v1+1)) (v2++[(4607182418800017407#64)])
   else none
   else if x1=1 then if (v2.length+1)*8≤140737488355328 then Pref24_NumbersL0 f v0 (IntKind.i64.wrap (v1+1)) (v2++[(0#64)])
   else none
   else some (.inl ()))
   else some (.inr (.inr v2))
def Pref24_NumbersL1  : Nat→List Int→Int→Option (Unit⊕(Unit⊕(List (BitVec 64))))
  |0,_,_=>none
  |f+1,v0,v1=>
   if v1<(v0.length:Int) then match idx v0 v1 with
   |none=>none
   |some x1=>(if x1=0 then Pref24_NumbersL0 f v0 (IntKind.i64.wrap (v1+1)) ([(4607182418800017407#64)])
   else if x1=1 then Pref24_NumbersL0 f v0 (IntKind.i64.wrap (v1+1)) ([(0#64)])
   else some (.inl ()))
   else some (.inr (.inl ()))
def Pref24_Numbers (F:Nat)(a0:List Int):Option ((List (BitVec 64))×Int):=
  match Pref24_NumbersL1 F a0 0 with
  |none=>none
  |some (.inl _)=>some ([],240)
  |some (.inr (.inl _))=>some ([],0)
  |some (.inr (.inr y1))=>some (y1,0)
def Pref02_Same (a0 a1:BitVec 64):Bool:=
  decide ((fBits a0)=(fBits a1))
def Plaw24_NoiseDrawsL1 (v0 v1:List (BitVec 64)):Nat→Int→Option (Unit⊕(Unit))
  |0,_=>none
  |f+1,v2=>
   if v2<(v0.length:Int) then match idx v0 v2 with
   |none=>none
   |some x1=>(match idx v1 v2 with
   |none=>none
   |some x2=>(bif (Pref02_Same x1 x2) then Plaw24_NoiseDrawsL1 v0 v1 f (IntKind.i64.wrap (v2+1))
   else some (.inl ())))
   else some (.inr ())
def Plaw24_NoiseDraws (F:Nat)(a0_Qubits a0_Bits:Int)(a0_Ops:List S40)(a1:BitVec 64)(a2:List (BitVec 64))(a3:List Int):Option Bool:=
  match Pnoise_Draw F a0_Qubits a0_Bits a0_Ops a1 a2 with|none=>none|some (r1,r2,r3)=>(match Pref24_Draw F a0_Qubits a0_Bits a0_Ops a1 a2 with|none=>none|some (r4,r5,r6)=>(if (Plaw24_num r3)=r6 then if r2=r5 then if (r1.length:Int)=(r4.length:Int) then match Plaw24_NoiseDrawsL0 a3 r1 r4 F 0 with
   |none=>none
   |some (.inl _)=>some false
   |some (.inr _)=>(match Pnoise_Numbers F a3 with|none=>none|some (r7,r8)=>(match Pref24_Numbers F a3 with|none=>none|some (r9,r10)=>(if (Plaw24_num r8)=r10 then if (r7.length:Int)=(r9.length:Int) then match Plaw24_NoiseDrawsL1 r7 r9 F 0 with
   |none=>none
   |some (.inl _)=>some false
   |some (.inr _)=>some true
   else some false
   else some false)))
   else some false
   else some false
   else some false))
def Pbits_TrailingZeros64 (a0:BitVec 64):Option Int:=
  if a0=0#64 then some 64
  else match idx zs64 (U (((a0 &&& (-a0))*285870213051353865#64) >>> (58:Nat))) with
   |none=>none
   |some x1=>some (IntKind.i64.wrap (x1))
def Pgate_Clifford (a0:Int):Bool:=
  if a0≥1 then decide (a0≤17)
  else false
def Ppauli_Check (a0_N:Int)(a0_X a0_Z:BitVec 64)(a0_Phase:Int):Int:=
  if a0_N<0 then 130
  else if a0_N>64 then 130
   else if a0_Phase<0 then 130
   else if a0_Phase>3 then 130
   else if a0_N<64 then if ((a0_X ||| a0_Z) >>> a0_N.toNat)=0#64 then 0
   else 130
   else 0
def Ppauli_right (a0_N:Int)(a0_X a0_Z:BitVec 64)(a0_Phase:Int):Bool:=
  decide ((Ppauli_Check a0_N a0_X a0_Z a0_Phase)=0)
def Ppauli_ThroughL0 (v0:Int)(v1 v2:List Int)(v3 v5:Int)(v6 v7:BitVec 64)(v8 v9:Int)(v10 v11:BitVec 64)(v12 v13 v16:Int):Nat→Int→BitVec 64→BitVec 64→Option ((BitVec 64)×(BitVec 64))
  |0,_,_,_=>none
  |f+1,v4,v14,v15=>
   if v4<v3 then match idx v2 v4 with
   |none=>none
   |some x1=>(if x1<0 then none
   else Ppauli_ThroughL0 v0 v1 v2 v3 v5 v6 v7 v8 v9 v10 v11 v12 v13 v16 f (IntKind.i64.wrap (v4+1)) (v14 &&& ~~~(1#64 <<< x1.toNat)) (v15 &&& ~~~(1#64 <<< x1.toNat)))
   else some (v14,v15)
def Ppauli_images (a0:Int):Option (List ByteArray):=
  if a0=0 then some ([])
  else if a0=1 then some ([((⟨#[43,88]⟩:ByteArray)),((⟨#[43,90]⟩:ByteArray))])
   else if a0=2 then some ([((⟨#[43,88]⟩:ByteArray)),((⟨#[45,90]⟩:ByteArray))])
   else if a0=3 then some ([((⟨#[45,88]⟩:ByteArray)),((⟨#[45,90]⟩:ByteArray))])
   else if a0=4 then some ([((⟨#[45,88]⟩:ByteArray)),((⟨#[43,90]⟩:ByteArray))])
   else if a0=5 then some ([((⟨#[43,89]⟩:ByteArray)),((⟨#[43,90]⟩:ByteArray))])
   else if a0=6 then some ([((⟨#[45,89]⟩:ByteArray)),((⟨#[43,90]⟩:ByteArray))])
   else if a0=7 then some ([((⟨#[43,88]⟩:ByteArray)),((⟨#[45,89]⟩:ByteArray))])
   else if a0=8 then some ([((⟨#[43,88]⟩:ByteArray)),((⟨#[43,89]⟩:ByteArray))])
   else if a0=9 then some ([((⟨#[45,90]⟩:ByteArray)),((⟨#[43,88]⟩:ByteArray))])
   else if a0=10 then some ([((⟨#[43,90]⟩:ByteArray)),((⟨#[45,88]⟩:ByteArray))])
   else if a0=11 then some ([((⟨#[43,88,88]⟩:ByteArray)),((⟨#[43,90,73]⟩:ByteArray)),((⟨#[43,73,88]⟩:ByteArray)),((⟨#[43,90,90]⟩:ByteArray))])
   else if a0=12 then some ([((⟨#[43,88,89]⟩:ByteArray)),((⟨#[43,90,73]⟩:ByteArray)),((⟨#[43,90,88]⟩:ByteArray)),((⟨#[43,90,90]⟩:ByteArray))])
   else if a0=13 then some ([((⟨#[43,88,90]⟩:ByteArray)),((⟨#[43,90,73]⟩:ByteArray)),((⟨#[43,90,88]⟩:ByteArray)),((⟨#[43,73,90]⟩:ByteArray))])
   else if a0=14 then some ([((⟨#[43,73,88]⟩:ByteArray)),((⟨#[43,73,90]⟩:ByteArray)),((⟨#[43,88,73]⟩:ByteArray)),((⟨#[43,90,73]⟩:ByteArray))])
   else if a0=15 then some ([((⟨#[43,90,89]⟩:ByteArray)),((⟨#[43,73,90]⟩:ByteArray)),((⟨#[43,89,90]⟩:ByteArray)),((⟨#[43,90,73]⟩:ByteArray))])
   else if a0=16 then some ([((⟨#[45,90,89]⟩:ByteArray)),((⟨#[43,73,90]⟩:ByteArray)),((⟨#[45,89,90]⟩:ByteArray)),((⟨#[43,90,73]⟩:ByteArray))])
   else if a0=17 then some ([((⟨#[43,90,73]⟩:ByteArray)),((⟨#[43,88,73]⟩:ByteArray)),((⟨#[43,73,90]⟩:ByteArray)),((⟨#[43,73,88]⟩:ByteArray))])
   else none
def Ppauli_code (a0_N:Int)(a0_X a0_Z:BitVec 64)(a0_Phase a1:Int):Option Int:=
  if a1<0 then none
  else some (bitop .xor .i64 (((a0_X >>> a1.toNat) &&& 1#64).toInt) (IntKind.i64.wrap (3*(((a0_Z >>> a1.toNat) &&& 1#64).toInt))))
def Pstrings_IndexByte (a0:ByteArray)(a1:Int):Int:=
  (Lib.indexByte a0.data.toList a1.toNat.toUInt8:Int)
def Ppauli_spreadL0 (v0:ByteArray)(v1:List Int)(v2 v4:Int)(v5 v6:BitVec 64)(v7 v8 v11:Int):Nat→Int→BitVec 64→BitVec 64→Option ((BitVec 64)×(BitVec 64))
  |0,_,_,_=>none
  |f+1,v3,v9,v10=>
   if v3<v2 then match idx v1 v3 with
   |none=>none
   |some x1=>(match bidx v0 (IntKind.i64.wrap (v3+1)) with
   |none=>none
   |some x2=>(if ((Pstrings_IndexByte (⟨#[73,88,89,90]⟩:ByteArray) x2))=1 then if x1<0 then none
   else if ((Pstrings_IndexByte (⟨#[73,88,89,90]⟩:ByteArray) x2))≥2 then Ppauli_spreadL0 v0 v1 v2 v4 v5 v6 v7 v8 v11 f (IntKind.i64.wrap (v3+1)) (v9 ||| (1#64 <<< x1.toNat)) (v10 ||| (1#64 <<< x1.toNat))
   else Ppauli_spreadL0 v0 v1 v2 v4 v5 v6 v7 v8 v11 f (IntKind.i64.wrap (v3+1)) (v9 ||| (1#64 <<< x1.toNat)) v10
   else if ((Pstrings_IndexByte (⟨#[73,88,89,90]⟩:ByteArray) x2))=2 then if x1<0 then none
   else if ((Pstrings_IndexByte (⟨#[73,88,89,90]⟩:ByteArray) x2))≥2 then Ppauli_spreadL0 v0 v1 v2 v4 v5 v6 v7 v8 v11 f (IntKind.i64.wrap (v3+1)) (v9 ||| (1#64 <<< x1.toNat)) (v10 ||| (1#64 <<< x1.toNat))
   else Ppauli_spreadL0 v0 v1 v2 v4 v5 v6 v7 v8 v11 f (IntKind.i64.wrap (v3+1)) (v9 ||| (1#64 <<< x1.toNat)) v10
   else if ((Pstrings_IndexByte (⟨#[73,88,89,90]⟩:ByteArray) x2))≥2 then if x1<0 then none
   else Ppauli_spreadL0 v0 v1 v2 v4 v5 v6 v7 v8 v11 f (IntKind.i64.wrap (v3+1)) v9 (v10 ||| (1#64 <<< x1.toNat))
   else Ppauli_spreadL0 v0 v1 v2 v4 v5 v6 v7 v8 v11 f (IntKind.i64.wrap (v3+1)) v9 v10))
   else some (v9,v10)
def Ppauli_spread (F:Nat)(a0:ByteArray)(a1:Int)(a2:List Int):Option (Int×(BitVec 64)×(BitVec 64)×Int):=
  match bidx a0 0 with
  |none=>none
  |some x1=>(if x1=45 then match Ppauli_spreadL0 a0 a2 (a2.length:Int) 0 0#64 0#64 0 a1 2 F 0 0#64 0#64 with
   |none=>none
   |some (y2,y3)=>some (a1,y2,y3,2)
   else match Ppauli_spreadL0 a0 a2 (a2.length:Int) 0 0#64 0#64 0 a1 0 F 0 0#64 0#64 with
   |none=>none
   |some (y4,y5)=>some (a1,y4,y5,0))
def Ppauli_timesL0 (v2:Int)(v3 v4:BitVec 64)(v5 v6:Int)(v7 v8:BitVec 64)(v9 v10:Int)(v11 v12:BitVec 64)(v13:Int):Nat→Int→BitVec 64→Option Int
  |0,_,_=>none
  |f+1,v0,v1=>
   if v1=0#64 then some (v0)
   else match Pbits_TrailingZeros64 v1 with|none=>none|some r1=>(match Ppauli_code v6 v7 v8 v9 r1 with|none=>none|some r2=>(match Ppauli_code v2 v3 v4 v5 r1 with|none=>none|some r3=>(if ((IntKind.i64.wrap ((IntKind.i64.wrap (r2-r3))+3)).tmod 3)=1 then Ppauli_timesL0 v2 v3 v4 v5 v6 v7 v8 v9 v10 v11 v12 v13 f (IntKind.i64.wrap (v0+1)) (v1 &&& (v1-1#64))
   else if ((IntKind.i64.wrap ((IntKind.i64.wrap (r2-r3))+3)).tmod 3)=2 then Ppauli_timesL0 v2 v3 v4 v5 v6 v7 v8 v9 v10 v11 v12 v13 f (IntKind.i64.wrap (v0+3)) (v1 &&& (v1-1#64))
   else Ppauli_timesL0 v2 v3 v4 v5 v6 v7 v8 v9 v10 v11 v12 v13 f v0 (v1 &&& (v1-1#64)))))
def Ppauli_times (F:Nat)(a0_N:Int)(a0_X a0_Z:BitVec 64)(a0_Phase a1_N:Int)(a1_X a1_Z:BitVec 64)(a1_Phase:Int):Option (Int×(BitVec 64)×(BitVec 64)×Int):=
  match Ppauli_timesL0 a0_N a0_X a0_Z a0_Phase a1_N a1_X a1_Z a1_Phase 0 0#64 0#64 0 F (IntKind.i64.wrap (a0_Phase+a1_Phase)) ((a0_X ||| a0_Z) &&& (a1_X ||| a1_Z)) with
  |none=>none
  |some y1=>some (a0_N,a0_X ^^^ a1_X,a0_Z ^^^ a1_Z,y1.tmod 4)
def Ppauli_ThroughL1 (F:Nat)(v0:List Int)(v1:List ByteArray)(v2:List Int)(v3 v5:Int)(v6 v7:BitVec 64)(v8 v9:Int)(v10 v11:BitVec 64)(v12:Int):Nat→Int→Int→BitVec 64→BitVec 64→Int→Option (Int×(BitVec 64)×(BitVec 64)×Int)
  |0,_,_,_,_,_=>none
  |f+1,v4,v13,v14,v15,v16=>
   if v4<v3 then match idx v2 v4 with
   |none=>none
   |some x1=>(match Ppauli_code v5 v6 v7 v8 x1 with|none=>none|some r2=>(if r2=2 then if r2=1 then match idx v1 (IntKind.i64.wrap (2*v4)) with
   |none=>none
   |some x3=>(match Ppauli_spread F x3 v5 v0 with|none=>none|some (r4,r5,r6,r7)=>(match Ppauli_times F v13 v14 v15 ((IntKind.i64.wrap (v16+1)).tmod 4) r4 r5 r6 r7 with|none=>none|some (r8,r9,r10,r11)=>(if r2≥2 then match idx v1 (IntKind.i64.wrap ((IntKind.i64.wrap (2*v4))+1)) with
   |none=>none
   |some x12=>(match Ppauli_spread F x12 v5 v0 with|none=>none|some (r13,r14,r15,r16)=>(match Ppauli_times F r8 r9 r10 r11 r13 r14 r15 r16 with|none=>none|some (r17,r18,r19,r20)=>Ppauli_ThroughL1 F v0 v1 v2 v3 v5 v6 v7 v8 v9 v10 v11 v12 f (IntKind.i64.wrap (v4+1)) r17 r18 r19 r20))
   else Ppauli_ThroughL1 F v0 v1 v2 v3 v5 v6 v7 v8 v9 v10 v11 v12 f (IntKind.i64.wrap (v4+1)) r8 r9 r10 r11)))
   else match idx v1 (IntKind.i64.wrap (2*v4)) with
   |none=>none
   |some x21=>(match Ppauli_spread F x21 v5 v0 with|none=>none|some (r22,r23,r24,r25)=>(match Ppauli_times F v13 v14 v15 ((IntKind.i64.wrap (v16+1)).tmod 4) r22 r23 r24 r25 with|none=>none|some (r26,r27,r28,r29)=>(if r2≥2 then match idx v1 (IntKind.i64.wrap ((IntKind.i64.wrap (2*v4))+1)) with
   |none=>none
   |some x30=>(match Ppauli_spread F x30 v5 v0 with|none=>none|some (r31,r32,r33,r34)=>(match Ppauli_times F r26 r27 r28 r29 r31 r32 r33 r34 with|none=>none|some (r35,r36,r37,r38)=>Ppauli_ThroughL1 F v0 v1 v2 v3 v5 v6 v7 v8 v9 v10 v11 v12 f (IntKind.i64.wrap (v4+1)) r35 r36 r37 r38))
   else Ppauli_ThroughL1 F v0 v1 v2 v3 v5 v6 v7 v8 v9 v10 v11 v12 f (IntKind.i64.wrap (v4+1)) r26 r27 r28 r29)))
   else if r2=1 then match idx v1 (IntKind.i64.wrap (2*v4)) with
   |none=>none
   |some x39=>(match Ppauli_spread F x39 v5 v0 with|none=>none|some (r40,r41,r42,r43)=>(match Ppauli_times F v13 v14 v15 v16 r40 r41 r42 r43 with|none=>none|some (r44,r45,r46,r47)=>(if r2≥2 then match idx v1 (IntKind.i64.wrap ((IntKind.i64.wrap (2*v4))+1)) with
   |none=>none
   |some x48=>(match Ppauli_spread F x48 v5 v0 with|none=>none|some (r49,r50,r51,r52)=>(match Ppauli_times F r44 r45 r46 r47 r49 r50 r51 r52 with|none=>none|some (r53,r54,r55,r56)=>Ppauli_ThroughL1 F v0 v1 v2 v3 v5 v6 v7 v8 v9 v10 v11 v12 f (IntKind.i64.wrap (v4+1)) r53 r54 r55 r56))
   else Ppauli_ThroughL1 F v0 v1 v2 v3 v5 v6 v7 v8 v9 v10 v11 v12 f (IntKind.i64.wrap (v4+1)) r44 r45 r46 r47)))
   else if r2≥2 then match idx v1 (IntKind.i64.wrap ((IntKind.i64.wrap (2*v4))+1)) with
   |none=>none
   |some x57=>(match Ppauli_spread F x57 v5 v0 with|none=>none|some (r58,r59,r60,r61)=>(match Ppauli_times F v13 v14 v15 v16 r58 r59 r60 r61 with|none=>none|some (r62,r63,r64,r65)=>Ppauli_ThroughL1 F v0 v1 v2 v3 v5 v6 v7 v8 v9 v10 v11 v12 f (IntKind.i64.wrap (v4+1)) r62 r63 r64 r65))
   else Ppauli_ThroughL1 F v0 v1 v2 v3 v5 v6 v7 v8 v9 v10 v11 v12 f (IntKind.i64.wrap (v4+1)) v13 v14 v15 v16))
   else some (v13,v14,v15,v16)
def Ppauli_Through (F:Nat)(a0_N:Int)(a0_X a0_Z:BitVec 64)(a0_Phase a1:Int)(a2:List Int):Option (Int×(BitVec 64)×(BitVec 64)×Int×Int):=
  bif (Ppauli_right a0_N a0_X a0_Z a0_Phase) then (bif (Pgate_Clifford a1) then (match Pgate_Check F a1 a2 a0_N with|none=>none|some r1=>(if r1=0 then match Ppauli_ThroughL0 a1 a2 a2 (a2.length:Int) a0_N a0_X a0_Z a0_Phase 0 0#64 0#64 0 a0_N a0_Phase F 0 a0_X a0_Z with
   |none=>none
   |some (y2,y3)=>(match Ppauli_images a1 with|none=>none|some r4=>(match Ppauli_ThroughL1 F a2 r4 a2 (a2.length:Int) a0_N a0_X a0_Z a0_Phase 0 0#64 0#64 0 F 0 a0_N y2 y3 a0_Phase with
   |none=>none
   |some (y5,y6,y7,y8)=>some (y5,y6,y7,y8,0)))
   else some (0,0#64,0#64,0,130)))
   else some (0,0#64,0#64,0,130))
  else some (0,0#64,0#64,0,130)
end Go.Proofs.YtbbikmfjnanpmaaDoor.Ab
