/- Functions of the program as plain functions, the functions alone. Written by G.py. No condition. -/
import Derived.Test.YtlgmimclpmolmaaDoorK1
set_option maxRecDepth 100000
set_option maxHeartbeats 4000000
set_option linter.unusedVariables false
set_option linter.unusedSimpArgs false
namespace Go.Proofs.YtlgmimclpmolmaaDoor.Ab
open Go
structure S57 where
  f_Re:BitVec 64
  f_Im:BitVec 64
  deriving DecidableEq
def Pexpect_qubitsL0 (v0:List (BitVec 64)):Nat→Int→Option (Int⊕(Unit))
  |0,_=>none
  |f+1,v1=>
   if v1<6 then if (IntKind.i64.wrap (2*v1))<0 then none
   else if (v0.length:Int)=(IntKind.i64.wrap (1*2 ^ (min ((IntKind.i64.wrap (2*v1))).toNat 64))) then some (.inl v1)
   else Pexpect_qubitsL0 v0 f (IntKind.i64.wrap (v1+1))
   else some (.inr ())
def Pexpect_qubits (F:Nat)(a0:List (BitVec 64)):Option Int:=
  match Pexpect_qubitsL0 a0 F 0 with
  |none=>none
  |some (.inl y1)=>some y1
  |some (.inr _)=>some ((-1):Int)
def Pbits_OnesCount64 (a0:BitVec 64):Int:=
  bitop .and .i64 (((((((((((((a0 >>> (1:Nat)) &&& 6148914691236517205#64)+(a0 &&& 6148914691236517205#64)) >>> (2:Nat)) &&& 3689348814741910323#64)+((((a0 >>> (1:Nat)) &&& 6148914691236517205#64)+(a0 &&& 6148914691236517205#64)) &&& 3689348814741910323#64)) >>> (4:Nat))+((((((a0 >>> (1:Nat)) &&& 6148914691236517205#64)+(a0 &&& 6148914691236517205#64)) >>> (2:Nat)) &&& 3689348814741910323#64)+((((a0 >>> (1:Nat)) &&& 6148914691236517205#64)+(a0 &&& 6148914691236517205#64)) &&& 3689348814741910323#64))) &&& 1085102592571150095#64)+((((((((((a0 >>> (1:Nat)) &&& 6148914691236517205#64)+(a0 &&& 6148914691236517205#64)) >>> (2:Nat)) &&& 3689348814741910323#64)+((((a0 >>> (1:Nat)) &&& 6148914691236517205#64)+(a0 &&& 6148914691236517205#64)) &&& 3689348814741910323#64)) >>> (4:Nat))+((((((a0 >>> (1:Nat)) &&& 6148914691236517205#64)+(a0 &&& 6148914691236517205#64)) >>> (2:Nat)) &&& 3689348814741910323#64)+((((a0 >>> (1:Nat)) &&& 6148914691236517205#64)+(a0 &&& 6148914691236517205#64)) &&& 3689348814741910323#64))) &&& 1085102592571150095#64) >>> (8:Nat)))+(((((((((((a0 >>> (1:Nat)) &&& 6148914691236517205#64)+(a0 &&& 6148914691236517205#64)) >>> (2:Nat)) &&& 3689348814741910323#64)+((((a0 >>> (1:Nat)) &&& 6148914691236517205#64)+(a0 &&& 6148914691236517205#64)) &&& 3689348814741910323#64)) >>> (4:Nat))+((((((a0 >>> (1:Nat)) &&& 6148914691236517205#64)+(a0 &&& 6148914691236517205#64)) >>> (2:Nat)) &&& 3689348814741910323#64)+((((a0 >>> (1:Nat)) &&& 6148914691236517205#64)+(a0 &&& 6148914691236517205#64)) &&& 3689348814741910323#64))) &&& 1085102592571150095#64)+((((((((((a0 >>> (1:Nat)) &&& 6148914691236517205#64)+(a0 &&& 6148914691236517205#64)) >>> (2:Nat)) &&& 3689348814741910323#64)+((((a0 >>> (1:Nat)) &&& 6148914691236517205#64)+(a0 &&& 6148914691236517205#64)) &&& 3689348814741910323#64)) >>> (4:Nat))+((((((a0 >>> (1:Nat)) &&& 6148914691236517205#64)+(a0 &&& 6148914691236517205#64)) >>> (2:Nat)) &&& 3689348814741910323#64)+((((a0 >>> (1:Nat)) &&& 6148914691236517205#64)+(a0 &&& 6148914691236517205#64)) &&& 3689348814741910323#64))) &&& 1085102592571150095#64) >>> (8:Nat))) >>> (16:Nat)))+((((((((((((a0 >>> (1:Nat)) &&& 6148914691236517205#64)+(a0 &&& 6148914691236517205#64)) >>> (2:Nat)) &&& 3689348814741910323#64)+((((a0 >>> (1:Nat)) &&& 6148914691236517205#64)+(a0 &&& 6148914691236517205#64)) &&& 3689348814741910323#64)) >>> (4:Nat))+((((((a0 >>> (1:Nat)) &&& 6148914691236517205#64)+(a0 &&& 6148914691236517205#64)) >>> (2:Nat)) &&& 3689348814741910323#64)+((((a0 >>> (1:Nat)) &&& 6148914691236517205#64)+(a0 &&& 6148914691236517205#64)) &&& 3689348814741910323#64))) &&& 1085102592571150095#64)+((((((((((a0 >>> (1:Nat)) &&& 6148914691236517205#64)+(a0 &&& 6148914691236517205#64)) >>> (2:Nat)) &&& 3689348814741910323#64)+((((a0 >>> (1:Nat)) &&& 6148914691236517205#64)+(a0 &&& 6148914691236517205#64)) &&& 3689348814741910323#64)) >>> (4:Nat))+((((((a0 >>> (1:Nat)) &&& 6148914691236517205#64)+(a0 &&& 6148914691236517205#64)) >>> (2:Nat)) &&& 3689348814741910323#64)+((((a0 >>> (1:Nat)) &&& 6148914691236517205#64)+(a0 &&& 6148914691236517205#64)) &&& 3689348814741910323#64))) &&& 1085102592571150095#64) >>> (8:Nat)))+(((((((((((a0 >>> (1:Nat)) &&& 6148914691236517205#64)+(a0 &&& 6148914691236517205#64)) >>> (2:Nat)) &&& 3689348814741910323#64)+((((a0 >>> (1:Nat)) &&& 6148914691236517205#64)+(a0 &&& 6148914691236517205#64)) &&& 3689348814741910323#64)) >>> (4:Nat))+((((((a0 >>> (1:Nat)) &&& 6148914691236517205#64)+(a0 &&& 6148914691236517205#64)) >>> (2:Nat)) &&& 3689348814741910323#64)+((((a0 >>> (1:Nat)) &&& 6148914691236517205#64)+(a0 &&& 6148914691236517205#64)) &&& 3689348814741910323#64))) &&& 1085102592571150095#64)+((((((((((a0 >>> (1:Nat)) &&& 6148914691236517205#64)+(a0 &&& 6148914691236517205#64)) >>> (2:Nat)) &&& 3689348814741910323#64)+((((a0 >>> (1:Nat)) &&& 6148914691236517205#64)+(a0 &&& 6148914691236517205#64)) &&& 3689348814741910323#64)) >>> (4:Nat))+((((((a0 >>> (1:Nat)) &&& 6148914691236517205#64)+(a0 &&& 6148914691236517205#64)) >>> (2:Nat)) &&& 3689348814741910323#64)+((((a0 >>> (1:Nat)) &&& 6148914691236517205#64)+(a0 &&& 6148914691236517205#64)) &&& 3689348814741910323#64))) &&& 1085102592571150095#64) >>> (8:Nat))) >>> (16:Nat))) >>> (32:Nat))).toInt) 127
def Pbits_OnesCount (a0:BitVec 64):Int:=
  (Pbits_OnesCount64 a0)
def Pexpect_Rebuild_1 (a0 a1:Int):Int:=
  (Pbits_OnesCount (BitVec.ofInt 64 (bitop .and .i64 a0 a1)))
def Pplane_Neg (a0_re a0_im:BitVec 64):(BitVec 64)×(BitVec 64):=
  (fNeg a0_re,fNeg a0_im)
def Pplane_Turn (a0_re a0_im:BitVec 64)(a1:Int):(BitVec 64)×(BitVec 64):=
  if (bitop .and .i64 a1 3)=1 then (fNeg a0_im,a0_re)
  else if (bitop .and .i64 a1 3)=2 then match Pplane_Neg a0_re a0_im with
   |(r1,r2)=>(r1,r2)
   else if (bitop .and .i64 a1 3)=3 then (a0_im,fNeg a0_re)
   else (a0_re,a0_im)
def Pexpect_RebuildL0  : Nat→List (BitVec 64)→Int→Int→Int→Int→Int→Int→Int→Int→Int→Int→Int→Int→Int→List Cpx→Option (((List (BitVec 64))×Int×Int×Int×Int×Int×Int×Int×Int×Int)⊕((List (BitVec 64))×Int×Int×Int×Int×Int×Int×Int×Int×Int×(List Cpx)))
  |0,_,_,_,_,_,_,_,_,_,_,_,_,_,_,_=>none
  |f+1,v0,v1,v2,v3,v4,v5,v6,v7,v8,v9,v10,v11,v12,v13,v14=>
   if v11<v10 then match idx v0 (IntKind.i64.wrap (v5+(IntKind.i64.wrap (v2*v11)))) with
   |none=>none
   |some x1=>(match Pplane_Turn x1 0#64 (IntKind.i64.wrap ((Pexpect_Rebuild_1 v5 v11)+(IntKind.i64.wrap (2*(Pexpect_Rebuild_1 v4 v11))))) with
   |(r2,r3)=>(if (v14.length+1)*16≤140737488355328 then Pexpect_RebuildL0 f v0 v1 v2 v3 v4 v5 v6 v7 v8 v9 v10 (IntKind.i64.wrap (v11+1)) v12 v13 (v14++[(⟨r2,r3⟩:Cpx)])
   else none))
   else some (.inr (v0,v1,v2,v3,v6,v7,v8,v9,v12,v13,v14))
def Pexpect_RebuildL1  : Nat→List (BitVec 64)→Int→Int→Int→Int→Int→Int→Int→Int→Int→Int→Int→Int→Int→Option (((List (BitVec 64))×Int×Int×Int×Int×Int×Int×Int×Int×Int)⊕((List (BitVec 64))×Int×Int×Int×Int×Int×Int×Int×Int×Int×(List Cpx)))
  |0,_,_,_,_,_,_,_,_,_,_,_,_,_,_=>none
  |f+1,v0,v1,v2,v3,v4,v5,v6,v7,v8,v9,v10,v11,v12,v13=>
   if v11<v10 then match idx v0 (IntKind.i64.wrap (v5+(IntKind.i64.wrap (v2*v11)))) with
   |none=>none
   |some x1=>(match Pplane_Turn x1 0#64 (IntKind.i64.wrap ((Pexpect_Rebuild_1 v5 v11)+(IntKind.i64.wrap (2*(Pexpect_Rebuild_1 v4 v11))))) with
   |(r2,r3)=>Pexpect_RebuildL0 f v0 v1 v2 v3 v4 v5 v6 v7 v8 v9 v10 (IntKind.i64.wrap (v11+1)) v12 v13 ([(⟨r2,r3⟩:Cpx)]))
   else some (.inl (v0,v1,v2,v3,v6,v7,v8,v9,v12,v13))
def Pplane_Add (a0_re a0_im a1_re a1_im:BitVec 64):(BitVec 64)×(BitVec 64):=
  (fAdd a0_re a1_re,fAdd a0_im a1_im)
def Pplane_SumL0 (v2:List Cpx)(v3:Int):Nat→BitVec 64→BitVec 64→Int→Option ((BitVec 64)×(BitVec 64))
  |0,_,_,_=>none
  |f+1,v0,v1,v4=>
   if v4<v3 then match idx v2 v4 with
   |none=>none
   |some x1=>(match Pplane_Add v0 v1 x1.re x1.im with
   |(r2,r3)=>Pplane_SumL0 v2 v3 f r2 r3 (IntKind.i64.wrap (v4+1)))
   else some (v0,v1)
def Pplane_Sum (F:Nat)(a0:List Cpx):Option ((BitVec 64)×(BitVec 64)):=
  if (a0.length:Int)=0 then some (0#64,0#64)
  else match idx a0 (0) with
   |none=>none
   |some x1=>(if 1≤(a0.length:Int) then match Pplane_SumL0 ((a0.drop 1).take (a0.length-1)) (((a0.drop 1).take (a0.length-1)).length:Int) F x1.re x1.im 0 with
   |none=>none
   |some (y2,y3)=>some (y2,y3)
   else none)
def Pmath_IsInf (a0:BitVec 64)(a1:Int):Bool:=
  if a1=0 then fCmp .gtr (fAbs a0) 9218868437227405311#64
  else if a1<0 then fCmp .gtr (fNeg a0) 9218868437227405311#64
   else fCmp .gtr a0 9218868437227405311#64
def Pmath_IsNaN (a0:BitVec 64):Bool:=
  fCmp .neq a0 a0
def Pmath_normalize (a0:BitVec 64):(BitVec 64)×Int:=
  bif fCmp .lss (fAbs a0) 4503599627370496#64 then (fMul a0 4841369599423283200#64,((-52):Int))
  else (a0,0)
def Pmath_Copysign (a0 a1:BitVec 64):Option (BitVec 64):=
  bif fNaN a0 then none
  else bif fNaN a1 then none
   else some ((a0 &&& 9223372036854775807#64) ||| (a1 &&& 9223372036854775808#64))
def Pmath_Inf (a0:Int):BitVec 64:=
  if a0≥0 then 9218868437227405312#64
  else 18442240474082181120#64
def Pmath_ldexp (a0:BitVec 64)(a1:Int):Option (BitVec 64):=
  bif fCmp .eql a0 0#64 then some a0
  else bif (Pmath_IsInf a0 0) then some a0
   else bif (Pmath_IsNaN a0) then some a0
   else match Pmath_normalize a0 with
   |(r1,r2)=>(bif fNaN r1 then none
   else if (IntKind.i64.wrap ((IntKind.i64.wrap (a1+r2))+(IntKind.i64.wrap ((bitop .and .i64 ((r1 >>> (52:Nat)).toInt) 2047)-1023))))<(((-1075):Int)) then match Pmath_Copysign 0#64 r1 with|none=>none|some r3=>some r3
   else if (IntKind.i64.wrap ((IntKind.i64.wrap (a1+r2))+(IntKind.i64.wrap ((bitop .and .i64 ((r1 >>> (52:Nat)).toInt) 2047)-1023))))>1023 then bif fCmp .lss r1 0#64 then some (Pmath_Inf ((-1):Int))
   else some (Pmath_Inf 1)
   else if (IntKind.i64.wrap ((IntKind.i64.wrap (a1+r2))+(IntKind.i64.wrap ((bitop .and .i64 ((r1 >>> (52:Nat)).toInt) 2047)-1023))))<(((-1022):Int)) then some (fMul 4368491638549381120#64 ((r1 &&& 9227875636482146303#64) ||| ((BitVec.ofInt 64 (IntKind.i64.wrap ((IntKind.i64.wrap ((IntKind.i64.wrap ((IntKind.i64.wrap (a1+r2))+(IntKind.i64.wrap ((bitop .and .i64 ((r1 >>> (52:Nat)).toInt) 2047)-1023))))+53))+1023))) <<< (52:Nat))))
   else some (fMul 4607182418800017408#64 ((r1 &&& 9227875636482146303#64) ||| ((BitVec.ofInt 64 (IntKind.i64.wrap ((IntKind.i64.wrap ((IntKind.i64.wrap (a1+r2))+(IntKind.i64.wrap ((bitop .and .i64 ((r1 >>> (52:Nat)).toInt) 2047)-1023))))+1023))) <<< (52:Nat)))))
def Pmath_Ldexp (a0:BitVec 64)(a1:Int):Option (BitVec 64):=
  match Pmath_ldexp a0 a1 with|none=>none|some r1=>some r1
def Pplane_Half (a0_re a0_im:BitVec 64)(a1:Int):Option ((BitVec 64)×(BitVec 64)×Int):=
  if a1<0 then some (0#64,0#64,30)
  else if a1>2000 then some (0#64,0#64,30)
   else match Pmath_Ldexp a0_re (IntKind.i64.wrap (0-a1)) with|none=>none|some r1=>(match Pmath_Ldexp a0_im (IntKind.i64.wrap (0-a1)) with|none=>none|some r2=>some (r1,r2,0))
def Pscalar_Plus (a0:BitVec 64):BitVec 64:=
  fAdd a0 0#64
def Pplane_Clean (a0_re a0_im:BitVec 64):(BitVec 64)×(BitVec 64):=
  ((Pscalar_Plus a0_re),(Pscalar_Plus a0_im))
def Pexpect_RebuildL2  : Nat→List (BitVec 64)→Int→Int→Int→Int→Int→Int→Int→Int→Int→Int→Int→Int→Int→List Cpx→List Cpx→Option (((List (BitVec 64))×Int×Int×Int×Int×Int×Int×Int×Int×Int×(List Cpx))⊕((List (BitVec 64))×Int×Int×Int×Int×Int×Int×Int×Int×Int×(List Cpx)×(List Cpx)))
  |0,_,_,_,_,_,_,_,_,_,_,_,_,_,_,_,_=>none
  |f+1,v0,v1,v2,v3,v4,v5,v6,v7,v8,v9,v10,v11,v12,v13,v14,v15=>
   if v11<v10 then match idx v0 (IntKind.i64.wrap (v5+(IntKind.i64.wrap (v2*v11)))) with
   |none=>none
   |some x1=>(match Pplane_Turn x1 0#64 (IntKind.i64.wrap ((Pexpect_Rebuild_1 v5 v11)+(IntKind.i64.wrap (2*(Pexpect_Rebuild_1 v4 v11))))) with
   |(r2,r3)=>(if (v14.length+1)*16≤140737488355328 then Pexpect_RebuildL2 f v0 v1 v2 v3 v4 v5 v6 v7 v8 v9 v10 (IntKind.i64.wrap (v11+1)) v12 v13 (v14++[(⟨r2,r3⟩:Cpx)]) v15
   else none))
   else some (.inr (v0,v1,v2,v3,v6,v7,v8,v9,v12,v13,v14,v15))
def Pexpect_RebuildL3  : Nat→List (BitVec 64)→Int→Int→Int→Int→Int→Int→Int→Int→Int→Int→Int→Int→Int→List Cpx→Option (((List (BitVec 64))×Int×Int×Int×Int×Int×Int×Int×Int×Int×(List Cpx))⊕((List (BitVec 64))×Int×Int×Int×Int×Int×Int×Int×Int×Int×(List Cpx)×(List Cpx)))
  |0,_,_,_,_,_,_,_,_,_,_,_,_,_,_,_=>none
  |f+1,v0,v1,v2,v3,v4,v5,v6,v7,v8,v9,v10,v11,v12,v13,v14=>
   if v11<v10 then match idx v0 (IntKind.i64.wrap (v5+(IntKind.i64.wrap (v2*v11)))) with
   |none=>none
   |some x1=>(match Pplane_Turn x1 0#64 (IntKind.i64.wrap ((Pexpect_Rebuild_1 v5 v11)+(IntKind.i64.wrap (2*(Pexpect_Rebuild_1 v4 v11))))) with
   |(r2,r3)=>Pexpect_RebuildL2 f v0 v1 v2 v3 v4 v5 v6 v7 v8 v9 v10 (IntKind.i64.wrap (v11+1)) v12 v13 ([(⟨r2,r3⟩:Cpx)]) v14)
   else some (.inl (v0,v1,v2,v3,v6,v7,v8,v9,v12,v13,v14))
def Pexpect_RebuildL4 (F:Nat)  : Nat→List (BitVec 64)→Int→Int→Int→Int→Int→Int→Int→Int→Int→List Cpx→Option (((List (BitVec 64))×Int×Int×Int×Int×Int×Int)⊕((List (BitVec 64))×Int×Int×Int×Int×Int×Int×(List Cpx)))
  |0,_,_,_,_,_,_,_,_,_,_,_=>none
  |f+1,v0,v1,v2,v3,v4,v5,v6,v7,v8,v9,v10=>
   if v7<v6 then match Pexpect_RebuildL3 F v0 v1 v2 v3 v7 (bitop .xor .i64 v3 v7) v4 v5 v6 v7 v2 0 v8 v9 v10 with
   |none=>none
   |some (.inl (y1,y2,y3,y4,y5,y6,y7,y8,y9,y10,y11))=>(match Pplane_Sum F ([]) with|none=>none|some (r24,r25)=>(match Pplane_Half r24 r25 y2 with|none=>none|some (r26,r27,r28)=>(match Pplane_Clean r26 r27 with
   |(r29,r30)=>(if (y11.length+1)*16≤140737488355328 then Pexpect_RebuildL4 F f y1 y2 y3 y4 y5 y6 y7 (IntKind.i64.wrap (y8+1)) y9 y10 (y11++[(⟨r29,r30⟩:Cpx)])
   else none))))
   |some (.inr (y12,y13,y14,y15,y16,y17,y18,y19,y20,y21,y22,y23))=>(match Pplane_Sum F y22 with|none=>none|some (r31,r32)=>(match Pplane_Half r31 r32 y13 with|none=>none|some (r33,r34,r35)=>(match Pplane_Clean r33 r34 with
   |(r36,r37)=>(if (y23.length+1)*16≤140737488355328 then Pexpect_RebuildL4 F f y12 y13 y14 y15 y16 y17 y18 (IntKind.i64.wrap (y19+1)) y20 y21 (y23++[(⟨r36,r37⟩:Cpx)])
   else none))))
   else some (.inr (v0,v1,v2,v4,v5,v8,v9,v10))
def Pexpect_RebuildL5 (F:Nat)  : Nat→List (BitVec 64)→Int→Int→Int→Int→Int→Int→Int→Int→Int→Option (((List (BitVec 64))×Int×Int×Int×Int×Int×Int)⊕((List (BitVec 64))×Int×Int×Int×Int×Int×Int×(List Cpx)))
  |0,_,_,_,_,_,_,_,_,_,_=>none
  |f+1,v0,v1,v2,v3,v4,v5,v6,v7,v8,v9=>
   if v7<v6 then match Pexpect_RebuildL1 F v0 v1 v2 v3 v7 (bitop .xor .i64 v3 v7) v4 v5 v6 v7 v2 0 v8 v9 with
   |none=>none
   |some (.inl (y1,y2,y3,y4,y5,y6,y7,y8,y9,y10))=>(match Pplane_Sum F ([]) with|none=>none|some (r22,r23)=>(match Pplane_Half r22 r23 y2 with|none=>none|some (r24,r25,r26)=>(match Pplane_Clean r24 r25 with
   |(r27,r28)=>Pexpect_RebuildL4 F f y1 y2 y3 y4 y5 y6 y7 (IntKind.i64.wrap (y8+1)) y9 y10 ([(⟨r27,r28⟩:Cpx)]))))
   |some (.inr (y11,y12,y13,y14,y15,y16,y17,y18,y19,y20,y21))=>(match Pplane_Sum F y21 with|none=>none|some (r29,r30)=>(match Pplane_Half r29 r30 y12 with|none=>none|some (r31,r32,r33)=>(match Pplane_Clean r31 r32 with
   |(r34,r35)=>Pexpect_RebuildL4 F f y11 y12 y13 y14 y15 y16 y17 (IntKind.i64.wrap (y18+1)) y19 y20 ([(⟨r34,r35⟩:Cpx)]))))
   else some (.inl (v0,v1,v2,v4,v5,v8,v9))
def Pexpect_RebuildL6  : Nat→List (BitVec 64)→Int→Int→Int→Int→Int→Int→Int→Int→Int→Int→Int→Int→Int→List Cpx→List Cpx→Option (((List (BitVec 64))×Int×Int×Int×Int×Int×Int×Int×Int×Int×(List Cpx))⊕((List (BitVec 64))×Int×Int×Int×Int×Int×Int×Int×Int×Int×(List Cpx)×(List Cpx)))
  |0,_,_,_,_,_,_,_,_,_,_,_,_,_,_,_,_=>none
  |f+1,v0,v1,v2,v3,v4,v5,v6,v7,v8,v9,v10,v11,v12,v13,v14,v15=>
   if v11<v10 then match idx v0 (IntKind.i64.wrap (v5+(IntKind.i64.wrap (v2*v11)))) with
   |none=>none
   |some x1=>(match Pplane_Turn x1 0#64 (IntKind.i64.wrap ((Pexpect_Rebuild_1 v5 v11)+(IntKind.i64.wrap (2*(Pexpect_Rebuild_1 v4 v11))))) with
   |(r2,r3)=>(if (v14.length+1)*16≤140737488355328 then Pexpect_RebuildL6 f v0 v1 v2 v3 v4 v5 v6 v7 v8 v9 v10 (IntKind.i64.wrap (v11+1)) v12 v13 (v14++[(⟨r2,r3⟩:Cpx)]) v15
   else none))
   else some (.inr (v0,v1,v2,v3,v6,v7,v8,v9,v12,v13,v14,v15))
def Pexpect_RebuildL7  : Nat→List (BitVec 64)→Int→Int→Int→Int→Int→Int→Int→Int→Int→Int→Int→Int→Int→List Cpx→Option (((List (BitVec 64))×Int×Int×Int×Int×Int×Int×Int×Int×Int×(List Cpx))⊕((List (BitVec 64))×Int×Int×Int×Int×Int×Int×Int×Int×Int×(List Cpx)×(List Cpx)))
  |0,_,_,_,_,_,_,_,_,_,_,_,_,_,_,_=>none
  |f+1,v0,v1,v2,v3,v4,v5,v6,v7,v8,v9,v10,v11,v12,v13,v14=>
   if v11<v10 then match idx v0 (IntKind.i64.wrap (v5+(IntKind.i64.wrap (v2*v11)))) with
   |none=>none
   |some x1=>(match Pplane_Turn x1 0#64 (IntKind.i64.wrap ((Pexpect_Rebuild_1 v5 v11)+(IntKind.i64.wrap (2*(Pexpect_Rebuild_1 v4 v11))))) with
   |(r2,r3)=>Pexpect_RebuildL6 f v0 v1 v2 v3 v4 v5 v6 v7 v8 v9 v10 (IntKind.i64.wrap (v11+1)) v12 v13 ([(⟨r2,r3⟩:Cpx)]) v14)
   else some (.inl (v0,v1,v2,v3,v6,v7,v8,v9,v12,v13,v14))
def Pexpect_RebuildL8 (F:Nat)  : Nat→List (BitVec 64)→Int→Int→Int→Int→Int→Int→Int→Int→Int→List Cpx→Option ((List (BitVec 64))×Int×Int×Int×Int×Int×Int×(List Cpx))
  |0,_,_,_,_,_,_,_,_,_,_,_=>none
  |f+1,v0,v1,v2,v3,v4,v5,v6,v7,v8,v9,v10=>
   if v7<v6 then match Pexpect_RebuildL7 F v0 v1 v2 v3 v7 (bitop .xor .i64 v3 v7) v4 v5 v6 v7 v2 0 v8 v9 v10 with
   |none=>none
   |some (.inl (y1,y2,y3,y4,y5,y6,y7,y8,y9,y10,y11))=>(match Pplane_Sum F ([]) with|none=>none|some (r24,r25)=>(match Pplane_Half r24 r25 y2 with|none=>none|some (r26,r27,r28)=>(match Pplane_Clean r26 r27 with
   |(r29,r30)=>(if (y11.length+1)*16≤140737488355328 then Pexpect_RebuildL8 F f y1 y2 y3 y4 y5 y6 y7 (IntKind.i64.wrap (y8+1)) y9 y10 (y11++[(⟨r29,r30⟩:Cpx)])
   else none))))
   |some (.inr (y12,y13,y14,y15,y16,y17,y18,y19,y20,y21,y22,y23))=>(match Pplane_Sum F y22 with|none=>none|some (r31,r32)=>(match Pplane_Half r31 r32 y13 with|none=>none|some (r33,r34,r35)=>(match Pplane_Clean r33 r34 with
   |(r36,r37)=>(if (y23.length+1)*16≤140737488355328 then Pexpect_RebuildL8 F f y12 y13 y14 y15 y16 y17 y18 (IntKind.i64.wrap (y19+1)) y20 y21 (y23++[(⟨r36,r37⟩:Cpx)])
   else none))))
   else some (v0,v1,v2,v4,v5,v8,v9,v10)
def Pexpect_RebuildL9 (F:Nat)  : Nat→List (BitVec 64)→Int→Int→Int→Int→Int→Int→List Cpx→Option ((Int×Int)⊕(Int×Int×(List Cpx)))
  |0,_,_,_,_,_,_,_,_=>none
  |f+1,v0,v1,v2,v3,v4,v5,v6,v7=>
   if v4<v3 then match Pexpect_RebuildL8 F F v0 v1 v2 v4 v3 v4 v2 0 v5 v6 v7 with
   |none=>none
   |some (y1,y2,y3,y4,y5,y6,y7,y8)=>Pexpect_RebuildL9 F f y1 y2 y3 y4 (IntKind.i64.wrap (y5+1)) y6 y7 y8
   else some (.inr (v5,v6,v7))
def Pexpect_RebuildL10 (F:Nat)  : Nat→List (BitVec 64)→Int→Int→Int→Int→Int→Int→Option ((Int×Int)⊕(Int×Int×(List Cpx)))
  |0,_,_,_,_,_,_,_=>none
  |f+1,v0,v1,v2,v3,v4,v5,v6=>
   if v4<v3 then match Pexpect_RebuildL5 F F v0 v1 v2 v4 v3 v4 v2 0 v5 v6 with
   |none=>none
   |some (.inl (y1,y2,y3,y4,y5,y6,y7))=>Pexpect_RebuildL10 F f y1 y2 y3 y4 (IntKind.i64.wrap (y5+1)) y6 y7
   |some (.inr (y8,y9,y10,y11,y12,y13,y14,y15))=>Pexpect_RebuildL9 F f y8 y9 y10 y11 (IntKind.i64.wrap (y12+1)) y13 y14 y15
   else some (.inl (v5,v6))
def Pexpect_Rebuild (F:Nat)(a0:List (BitVec 64)):Option (Int×(List Cpx)×Int):=
  match Pexpect_qubits F a0 with|none=>none|some r1=>(if r1<0 then some (0,[],220)
   else match Pexpect_RebuildL10 F F a0 r1 (IntKind.i64.wrap (1*2 ^ (min (r1).toNat 64))) (IntKind.i64.wrap (1*2 ^ (min (r1).toNat 64))) 0 0 (IntKind.i64.wrap (1*2 ^ (min (r1).toNat 64))) with
   |none=>none
   |some (.inl (y2,y3))=>some (y3,[],0)
   |some (.inr (y4,y5,y6))=>some (y5,y6,0))
def Pref22_sideL0 (v0:Int):Nat→Int→Option (Int⊕(Unit))
  |0,_=>none
  |f+1,v1=>
   if v1≤5 then if v0=(IntKind.i64.wrap (1*2 ^ (min (U (BitVec.ofInt 64 (IntKind.i64.wrap (2*v1)))).toNat 64))) then some (.inl v1)
   else Pref22_sideL0 v0 f (IntKind.i64.wrap (v1+1))
   else some (.inr ())
def Pref22_side (F:Nat)(a0:Int):Option Int:=
  match Pref22_sideL0 a0 F 0 with
  |none=>none
  |some (.inl y1)=>some y1
  |some (.inr _)=>some ((-1):Int)
def Pref22_commonL0  : Nat→Int→Int→Option Int
  |0,_,_=>none
  |f+1,v0,v1=>
   if v1>0 then Pref22_commonL0 f (IntKind.i64.wrap (v0+1)) (bitop .and .i64 v1 (IntKind.i64.wrap (v1-1)))
   else some (v0)
def Pref22_common (F:Nat)(a0 a1:Int):Option Int:=
  match Pref22_commonL0 F 0 (bitop .and .i64 a0 a1) with
  |none=>none
  |some y1=>some y1
def Pref03_Turn (a0_Re a0_Im:BitVec 64)(a1:Int):Option ((BitVec 64)×(BitVec 64)):=
  if 4#64=0#64 then none
  else if ((BitVec.ofInt 64 a1) % 4#64)=1#64 then some (fNeg a0_Im,a0_Re)
   else if ((BitVec.ofInt 64 a1) % 4#64)=2#64 then some (fNeg a0_Re,fNeg a0_Im)
   else if ((BitVec.ofInt 64 a1) % 4#64)=3#64 then some (a0_Im,fNeg a0_Re)
   else some (a0_Re,a0_Im)
def Pref22_RebuildL0 (F:Nat)  : Nat→List (BitVec 64)→Int→Int→Int→Int→Int→Int→Int→List S57→Option (((List (BitVec 64))×Int×Int×Int×Int×Int×Int)⊕((List (BitVec 64))×Int×Int×Int×Int×Int×Int×(List S57)))
  |0,_,_,_,_,_,_,_,_,_=>none
  |f+1,v0,v1,v2,v3,v4,v5,v6,v7,v8=>
   if v5<v2 then match idx v0 (IntKind.i64.wrap ((bitop .xor .i64 v3 v4)+(IntKind.i64.wrap (v2*v5)))) with
   |none=>none
   |some x1=>(match Pref22_common F (bitop .xor .i64 v3 v4) v5 with|none=>none|some r2=>(match Pref22_common F v4 v5 with|none=>none|some r3=>(match Pref03_Turn x1 0#64 (IntKind.i64.wrap (r2+(IntKind.i64.wrap (2*r3)))) with|none=>none|some (r4,r5)=>(if (v8.length+1)*16≤140737488355328 then Pref22_RebuildL0 F f v0 v1 v2 v3 v4 (IntKind.i64.wrap (v5+1)) v6 v7 (v8++[(⟨r4,r5⟩:S57)])
   else none))))
   else some (.inr (v0,v1,v2,v3,v4,v6,v7,v8))
def Pref22_RebuildL1 (F:Nat)  : Nat→List (BitVec 64)→Int→Int→Int→Int→Int→Int→Int→Option (((List (BitVec 64))×Int×Int×Int×Int×Int×Int)⊕((List (BitVec 64))×Int×Int×Int×Int×Int×Int×(List S57)))
  |0,_,_,_,_,_,_,_,_=>none
  |f+1,v0,v1,v2,v3,v4,v5,v6,v7=>
   if v5<v2 then match idx v0 (IntKind.i64.wrap ((bitop .xor .i64 v3 v4)+(IntKind.i64.wrap (v2*v5)))) with
   |none=>none
   |some x1=>(match Pref22_common F (bitop .xor .i64 v3 v4) v5 with|none=>none|some r2=>(match Pref22_common F v4 v5 with|none=>none|some r3=>(match Pref03_Turn x1 0#64 (IntKind.i64.wrap (r2+(IntKind.i64.wrap (2*r3)))) with|none=>none|some (r4,r5)=>Pref22_RebuildL0 F f v0 v1 v2 v3 v4 (IntKind.i64.wrap (v5+1)) v6 v7 ([(⟨r4,r5⟩:S57)]))))
   else some (.inl (v0,v1,v2,v3,v4,v6,v7))
def Pref03_Add (a0_Re a0_Im a1_Re a1_Im:BitVec 64):(BitVec 64)×(BitVec 64):=
  (fAdd a0_Re a1_Re,fAdd a0_Im a1_Im)
def Pref03_SumL0 (v0:List S57)(v2 v3:BitVec 64):Nat→Int→BitVec 64→BitVec 64→Option ((BitVec 64)×(BitVec 64))
  |0,_,_,_=>none
  |f+1,v1,v4,v5=>
   if v1<(v0.length:Int) then match idx v0 v1 with
   |none=>none
   |some x1=>(match Pref03_Add v4 v5 x1.f_Re x1.f_Im with
   |(r2,r3)=>Pref03_SumL0 v0 v2 v3 f (IntKind.i64.wrap (v1+1)) r2 r3)
   else some (v4,v5)
def Pref03_Sum (F:Nat)(a0:List S57):Option ((BitVec 64)×(BitVec 64)):=
  if (a0.length:Int)=0 then some (0#64,0#64)
  else match idx a0 (0) with
   |none=>none
   |some x1=>(match Pref03_SumL0 a0 0#64 0#64 F 1 x1.f_Re x1.f_Im with
   |none=>none
   |some (y2,y3)=>some (y2,y3))
def Pref03_Half (a0_Re a0_Im:BitVec 64)(a1:Int):Option ((BitVec 64)×(BitVec 64)×Int):=
  if a1<0 then some (0#64,0#64,30)
  else if a1>2000 then some (0#64,0#64,30)
   else match Pmath_Ldexp a0_Re (IntKind.i64.wrap (0-a1)) with|none=>none|some r1=>(match Pmath_Ldexp a0_Im (IntKind.i64.wrap (0-a1)) with|none=>none|some r2=>some (r1,r2,0))
def Pref03_Clean (a0_Re a0_Im:BitVec 64):(BitVec 64)×(BitVec 64):=
  (fAdd a0_Re 0#64,fAdd a0_Im 0#64)
def Pref22_RebuildL2 (F:Nat)  : Nat→List (BitVec 64)→Int→Int→Int→Int→Int→Int→Int→List S57→List S57→Option (((List (BitVec 64))×Int×Int×Int×Int×Int×Int×(List S57))⊕((List (BitVec 64))×Int×Int×Int×Int×Int×Int×(List S57)×(List S57)))
  |0,_,_,_,_,_,_,_,_,_,_=>none
  |f+1,v0,v1,v2,v3,v4,v5,v6,v7,v8,v9=>
   if v5<v2 then match idx v0 (IntKind.i64.wrap ((bitop .xor .i64 v3 v4)+(IntKind.i64.wrap (v2*v5)))) with
   |none=>none
   |some x1=>(match Pref22_common F (bitop .xor .i64 v3 v4) v5 with|none=>none|some r2=>(match Pref22_common F v4 v5 with|none=>none|some r3=>(match Pref03_Turn x1 0#64 (IntKind.i64.wrap (r2+(IntKind.i64.wrap (2*r3)))) with|none=>none|some (r4,r5)=>(if (v8.length+1)*16≤140737488355328 then Pref22_RebuildL2 F f v0 v1 v2 v3 v4 (IntKind.i64.wrap (v5+1)) v6 v7 (v8++[(⟨r4,r5⟩:S57)]) v9
   else none))))
   else some (.inr (v0,v1,v2,v3,v4,v6,v7,v8,v9))
def Pref22_RebuildL3 (F:Nat)  : Nat→List (BitVec 64)→Int→Int→Int→Int→Int→Int→Int→List S57→Option (((List (BitVec 64))×Int×Int×Int×Int×Int×Int×(List S57))⊕((List (BitVec 64))×Int×Int×Int×Int×Int×Int×(List S57)×(List S57)))
  |0,_,_,_,_,_,_,_,_,_=>none
  |f+1,v0,v1,v2,v3,v4,v5,v6,v7,v8=>
   if v5<v2 then match idx v0 (IntKind.i64.wrap ((bitop .xor .i64 v3 v4)+(IntKind.i64.wrap (v2*v5)))) with
   |none=>none
   |some x1=>(match Pref22_common F (bitop .xor .i64 v3 v4) v5 with|none=>none|some r2=>(match Pref22_common F v4 v5 with|none=>none|some r3=>(match Pref03_Turn x1 0#64 (IntKind.i64.wrap (r2+(IntKind.i64.wrap (2*r3)))) with|none=>none|some (r4,r5)=>Pref22_RebuildL2 F f v0 v1 v2 v3 v4 (IntKind.i64.wrap (v5+1)) v6 v7 ([(⟨r4,r5⟩:S57)]) v8)))
   else some (.inl (v0,v1,v2,v3,v4,v6,v7,v8))
def Pref22_RebuildL4 (F:Nat)  : Nat→List (BitVec 64)→Int→Int→Int→Int→Int→Int→List S57→Option (((List (BitVec 64))×Int×Int×Int×Int×Int)⊕((List (BitVec 64))×Int×Int×Int×Int×Int×(List S57)))
  |0,_,_,_,_,_,_,_,_=>none
  |f+1,v0,v1,v2,v3,v4,v5,v6,v7=>
   if v4<v2 then match Pref22_RebuildL3 F F v0 v1 v2 v3 v4 0 v5 v6 v7 with
   |none=>none
   |some (.inl (y1,y2,y3,y4,y5,y6,y7,y8))=>(match Pref03_Sum F ([]) with|none=>none|some (r18,r19)=>(match Pref03_Half r18 r19 y2 with|none=>none|some (r20,r21,r22)=>(match Pref03_Clean r20 r21 with
   |(r23,r24)=>(if (y8.length+1)*16≤140737488355328 then Pref22_RebuildL4 F f y1 y2 y3 y4 (IntKind.i64.wrap (y5+1)) y6 y7 (y8++[(⟨r23,r24⟩:S57)])
   else none))))
   |some (.inr (y9,y10,y11,y12,y13,y14,y15,y16,y17))=>(match Pref03_Sum F y16 with|none=>none|some (r25,r26)=>(match Pref03_Half r25 r26 y10 with|none=>none|some (r27,r28,r29)=>(match Pref03_Clean r27 r28 with
   |(r30,r31)=>(if (y17.length+1)*16≤140737488355328 then Pref22_RebuildL4 F f y9 y10 y11 y12 (IntKind.i64.wrap (y13+1)) y14 y15 (y17++[(⟨r30,r31⟩:S57)])
   else none))))
   else some (.inr (v0,v1,v2,v3,v5,v6,v7))
def Pref22_RebuildL5 (F:Nat)  : Nat→List (BitVec 64)→Int→Int→Int→Int→Int→Int→Option (((List (BitVec 64))×Int×Int×Int×Int×Int)⊕((List (BitVec 64))×Int×Int×Int×Int×Int×(List S57)))
  |0,_,_,_,_,_,_,_=>none
  |f+1,v0,v1,v2,v3,v4,v5,v6=>
   if v4<v2 then match Pref22_RebuildL1 F F v0 v1 v2 v3 v4 0 v5 v6 with
   |none=>none
   |some (.inl (y1,y2,y3,y4,y5,y6,y7))=>(match Pref03_Sum F ([]) with|none=>none|some (r16,r17)=>(match Pref03_Half r16 r17 y2 with|none=>none|some (r18,r19,r20)=>(match Pref03_Clean r18 r19 with
   |(r21,r22)=>Pref22_RebuildL4 F f y1 y2 y3 y4 (IntKind.i64.wrap (y5+1)) y6 y7 ([(⟨r21,r22⟩:S57)]))))
   |some (.inr (y8,y9,y10,y11,y12,y13,y14,y15))=>(match Pref03_Sum F y15 with|none=>none|some (r23,r24)=>(match Pref03_Half r23 r24 y9 with|none=>none|some (r25,r26,r27)=>(match Pref03_Clean r25 r26 with
   |(r28,r29)=>Pref22_RebuildL4 F f y8 y9 y10 y11 (IntKind.i64.wrap (y12+1)) y13 y14 ([(⟨r28,r29⟩:S57)]))))
   else some (.inl (v0,v1,v2,v3,v5,v6))
def Pref22_RebuildL6 (F:Nat)  : Nat→List (BitVec 64)→Int→Int→Int→Int→Int→Int→Int→List S57→List S57→Option (((List (BitVec 64))×Int×Int×Int×Int×Int×Int×(List S57))⊕((List (BitVec 64))×Int×Int×Int×Int×Int×Int×(List S57)×(List S57)))
  |0,_,_,_,_,_,_,_,_,_,_=>none
  |f+1,v0,v1,v2,v3,v4,v5,v6,v7,v8,v9=>
   if v5<v2 then match idx v0 (IntKind.i64.wrap ((bitop .xor .i64 v3 v4)+(IntKind.i64.wrap (v2*v5)))) with
   |none=>none
   |some x1=>(match Pref22_common F (bitop .xor .i64 v3 v4) v5 with|none=>none|some r2=>(match Pref22_common F v4 v5 with|none=>none|some r3=>(match Pref03_Turn x1 0#64 (IntKind.i64.wrap (r2+(IntKind.i64.wrap (2*r3)))) with|none=>none|some (r4,r5)=>(if (v8.length+1)*16≤140737488355328 then Pref22_RebuildL6 F f v0 v1 v2 v3 v4 (IntKind.i64.wrap (v5+1)) v6 v7 (v8++[(⟨r4,r5⟩:S57)]) v9
   else none))))
   else some (.inr (v0,v1,v2,v3,v4,v6,v7,v8,v9))
def Pref22_RebuildL7 (F:Nat)  : Nat→List (BitVec 64)→Int→Int→Int→Int→Int→Int→Int→List S57→Option (((List (BitVec 64))×Int×Int×Int×Int×Int×Int×(List S57))⊕((List (BitVec 64))×Int×Int×Int×Int×Int×Int×(List S57)×(List S57)))
  |0,_,_,_,_,_,_,_,_,_=>none
  |f+1,v0,v1,v2,v3,v4,v5,v6,v7,v8=>
   if v5<v2 then match idx v0 (IntKind.i64.wrap ((bitop .xor .i64 v3 v4)+(IntKind.i64.wrap (v2*v5)))) with
   |none=>none
   |some x1=>(match Pref22_common F (bitop .xor .i64 v3 v4) v5 with|none=>none|some r2=>(match Pref22_common F v4 v5 with|none=>none|some r3=>(match Pref03_Turn x1 0#64 (IntKind.i64.wrap (r2+(IntKind.i64.wrap (2*r3)))) with|none=>none|some (r4,r5)=>Pref22_RebuildL6 F f v0 v1 v2 v3 v4 (IntKind.i64.wrap (v5+1)) v6 v7 ([(⟨r4,r5⟩:S57)]) v8)))
   else some (.inl (v0,v1,v2,v3,v4,v6,v7,v8))
def Pref22_RebuildL8 (F:Nat)  : Nat→List (BitVec 64)→Int→Int→Int→Int→Int→Int→List S57→Option ((List (BitVec 64))×Int×Int×Int×Int×Int×(List S57))
  |0,_,_,_,_,_,_,_,_=>none
  |f+1,v0,v1,v2,v3,v4,v5,v6,v7=>
   if v4<v2 then match Pref22_RebuildL7 F F v0 v1 v2 v3 v4 0 v5 v6 v7 with
   |none=>none
   |some (.inl (y1,y2,y3,y4,y5,y6,y7,y8))=>(match Pref03_Sum F ([]) with|none=>none|some (r18,r19)=>(match Pref03_Half r18 r19 y2 with|none=>none|some (r20,r21,r22)=>(match Pref03_Clean r20 r21 with
   |(r23,r24)=>(if (y8.length+1)*16≤140737488355328 then Pref22_RebuildL8 F f y1 y2 y3 y4 (IntKind.i64.wrap (y5+1)) y6 y7 (y8++[(⟨r23,r24⟩:S57)])
   else none))))
   |some (.inr (y9,y10,y11,y12,y13,y14,y15,y16,y17))=>(match Pref03_Sum F y16 with|none=>none|some (r25,r26)=>(match Pref03_Half r25 r26 y10 with|none=>none|some (r27,r28,r29)=>(match Pref03_Clean r27 r28 with
   |(r30,r31)=>(if (y17.length+1)*16≤140737488355328 then Pref22_RebuildL8 F f y9 y10 y11 y12 (IntKind.i64.wrap (y13+1)) y14 y15 (y17++[(⟨r30,r31⟩:S57)])
   else none))))
   else some (v0,v1,v2,v3,v5,v6,v7)
def Pref22_RebuildL9 (F:Nat)  : Nat→List (BitVec 64)→Int→Int→Int→Int→Int→List S57→Option ((Int×Int)⊕(Int×Int×(List S57)))
  |0,_,_,_,_,_,_,_=>none
  |f+1,v0,v1,v2,v3,v4,v5,v6=>
   if v3<v2 then match Pref22_RebuildL8 F F v0 v1 v2 v3 0 v4 v5 v6 with
   |none=>none
   |some (y1,y2,y3,y4,y5,y6,y7)=>Pref22_RebuildL9 F f y1 y2 y3 (IntKind.i64.wrap (y4+1)) y5 y6 y7
   else some (.inr (v4,v5,v6))
def Pref22_RebuildL10 (F:Nat)  : Nat→List (BitVec 64)→Int→Int→Int→Int→Int→Option ((Int×Int)⊕(Int×Int×(List S57)))
  |0,_,_,_,_,_,_=>none
  |f+1,v0,v1,v2,v3,v4,v5=>
   if v3<v2 then match Pref22_RebuildL5 F F v0 v1 v2 v3 0 v4 v5 with
   |none=>none
   |some (.inl (y1,y2,y3,y4,y5,y6))=>Pref22_RebuildL10 F f y1 y2 y3 (IntKind.i64.wrap (y4+1)) y5 y6
   |some (.inr (y7,y8,y9,y10,y11,y12,y13))=>Pref22_RebuildL9 F f y7 y8 y9 (IntKind.i64.wrap (y10+1)) y11 y12 y13
   else some (.inl (v4,v5))
def Pref22_Rebuild (F:Nat)(a0:List (BitVec 64)):Option (Int×(List S57)×Int):=
  match Pref22_side F (a0.length:Int) with|none=>none|some r1=>(if r1<0 then some (0,[],220)
   else match Pref22_RebuildL10 F F a0 r1 (IntKind.i64.wrap (1*2 ^ (min (U (BitVec.ofInt 64 r1)).toNat 64))) 0 0 (IntKind.i64.wrap (1*2 ^ (min (U (BitVec.ofInt 64 r1)).toNat 64))) with
   |none=>none
   |some (.inl (y2,y3))=>some (y3,[],0)
   |some (.inr (y4,y5,y6))=>some (y5,y6,0))
def Pexpect_PurityL0  : Nat→Int→List (BitVec 64)→Int→Int→List (BitVec 64)→Option (Int⊕(Int×(List (BitVec 64))))
  |0,_,_,_,_,_=>none
  |f+1,v0,v1,v2,v3,v4=>
   if v3<v2 then match idx v1 v3 with
   |none=>none
   |some x1=>(if (v4.length+1)*8≤140737488355328 then Pexpect_PurityL0 f v0 v1 v2 (IntKind.i64.wrap (v3+1)) (v4++[(fMul x1 x1)])
   else none)
   else some (.inr (v0,v4))
def Pexpect_PurityL1  : Nat→Int→List (BitVec 64)→Int→Int→Option (Int⊕(Int×(List (BitVec 64))))
  |0,_,_,_,_=>none
  |f+1,v0,v1,v2,v3=>
   if v3<v2 then match idx v1 v3 with
   |none=>none
   |some x1=>Pexpect_PurityL0 f v0 v1 v2 (IntKind.i64.wrap (v3+1)) ([(fMul x1 x1)])
   else some (.inl v0)
def Pscalar_SumL0 (v1:List (BitVec 64))(v2:Int):Nat→BitVec 64→Int→Option (BitVec 64)
  |0,_,_=>none
  |f+1,v0,v3=>
   if v3<v2 then match idx v1 v3 with
   |none=>none
   |some x1=>Pscalar_SumL0 v1 v2 f (fAdd v0 x1) (IntKind.i64.wrap (v3+1))
   else some (v0)
def Pscalar_Sum (F:Nat)(a0:List (BitVec 64)):Option (BitVec 64):=
  match Pscalar_SumL0 a0 (a0.length:Int) F 0#64 0 with
  |none=>none
  |some y1=>some y1
def Pexpect_Purity (F:Nat)(a0:List (BitVec 64)):Option ((BitVec 64)×Int):=
  match Pexpect_qubits F a0 with|none=>none|some r1=>(if r1<0 then some (0#64,220)
   else match Pexpect_PurityL1 F r1 a0 (a0.length:Int) 0 with
   |none=>none
   |some (.inl y2)=>(match Pscalar_Sum F ([]) with|none=>none|some r5=>(match Pmath_Ldexp r5 (IntKind.i64.wrap (0-y2)) with|none=>none|some r6=>some (r6,0)))
   |some (.inr (y3,y4))=>(match Pscalar_Sum F y4 with|none=>none|some r7=>(match Pmath_Ldexp r7 (IntKind.i64.wrap (0-y3)) with|none=>none|some r8=>some (r8,0))))
def Pref22_PurityL0  : Nat→List (BitVec 64)→Int→Int→List (BitVec 64)→Option (Int⊕(Int×(List (BitVec 64))))
  |0,_,_,_,_=>none
  |f+1,v0,v1,v2,v3=>
   if v2<(v0.length:Int) then match idx v0 v2 with
   |none=>none
   |some x1=>(if (v3.length+1)*8≤140737488355328 then Pref22_PurityL0 f v0 v1 (IntKind.i64.wrap (v2+1)) (v3++[(fMul x1 x1)])
   else none)
   else some (.inr (v1,v3))
def Pref22_PurityL1  : Nat→List (BitVec 64)→Int→Int→Option (Int⊕(Int×(List (BitVec 64))))
  |0,_,_,_=>none
  |f+1,v0,v1,v2=>
   if v2<(v0.length:Int) then match idx v0 v2 with
   |none=>none
   |some x1=>Pref22_PurityL0 f v0 v1 (IntKind.i64.wrap (v2+1)) ([(fMul x1 x1)])
   else some (.inl v1)
def Pref02_SumL0 (v0:List (BitVec 64)):Nat→BitVec 64→Int→Option (BitVec 64)
  |0,_,_=>none
  |f+1,v1,v2=>
   if v2<(v0.length:Int) then match idx v0 v2 with
   |none=>none
   |some x1=>Pref02_SumL0 v0 f (fAdd v1 x1) (IntKind.i64.wrap (v2+1))
   else some (v1)
def Pref02_Sum (F:Nat)(a0:List (BitVec 64)):Option (BitVec 64):=
  match Pref02_SumL0 a0 F 0#64 0 with
  |none=>none
  |some y1=>some y1
def Pref22_Purity (F:Nat)(a0:List (BitVec 64)):Option ((BitVec 64)×Int):=
  match Pref22_side F (a0.length:Int) with|none=>none|some r1=>(if r1<0 then some (0#64,220)
   else match Pref22_PurityL1 F a0 r1 0 with
   |none=>none
   |some (.inl y2)=>(match Pref02_Sum F ([]) with|none=>none|some r5=>(match Pmath_Ldexp r5 (IntKind.i64.wrap (0-y2)) with|none=>none|some r6=>some (r6,0)))
   |some (.inr (y3,y4))=>(match Pref02_Sum F y4 with|none=>none|some r7=>(match Pmath_Ldexp r7 (IntKind.i64.wrap (0-y3)) with|none=>none|some r8=>some (r8,0))))
def Plaw22_num (a0:Int):Int:=
  a0
def Plaw03_Z (a0_re a0_im:BitVec 64):(BitVec 64)×(BitVec 64):=
  (a0_re,a0_im)
def Pref01_Bits64 (a0:BitVec 64):Option (BitVec 64):=
  bif fCmp .neq a0 a0 then some 9221120237041090561#64
  else bif fNaN a0 then none
   else some a0
def Pref01_Same (a0 a1:BitVec 64):Option Bool:=
  match Pref01_Bits64 a0 with|none=>none|some r1=>(match Pref01_Bits64 a1 with|none=>none|some r2=>some (decide (r1=r2)))
def Pref03_Same (a0_Re a0_Im a1_Re a1_Im:BitVec 64):Option Bool:=
  match Pref01_Same a0_Re a1_Re with|none=>none|some r1=>(bif r1 then (match Pref01_Same a0_Im a1_Im with|none=>none|some r2=>some r2)
   else some false)
def Plaw03_Is (a0_re a0_im a1_Re a1_Im:BitVec 64):Option Bool:=
  match Plaw03_Z a0_re a0_im with
  |(r1,r2)=>(match Pref03_Same r1 r2 a1_Re a1_Im with|none=>none|some r3=>some r3)
def Plaw10_SameL0 (v0:List Cpx)(v1:List S57):Nat→Int→Option (Unit⊕(Unit))
  |0,_=>none
  |f+1,v2=>
   if v2<(v0.length:Int) then match idx v0 v2 with
   |none=>none
   |some x1=>(match idx v1 v2 with
   |none=>none
   |some x2=>(match Plaw03_Is x1.re x1.im x2.f_Re x2.f_Im with|none=>none|some r3=>(bif r3 then Plaw10_SameL0 v0 v1 f (IntKind.i64.wrap (v2+1))
   else some (.inl ()))))
   else some (.inr ())
def Plaw10_Same (F:Nat)(a0:List Cpx)(a1:List S57):Option Bool:=
  if (a0.length:Int)=(a1.length:Int) then match Plaw10_SameL0 a0 a1 F 0 with
   |none=>none
   |some (.inl _)=>some false
   |some (.inr _)=>some true
  else some false
def Pref02_Same (a0 a1:BitVec 64):Bool:=
  decide ((fBits a0)=(fBits a1))
def Plaw22_floatsL0 (v0 v1:List (BitVec 64)):Nat→Int→Option (Unit⊕(Unit))
  |0,_=>none
  |f+1,v2=>
   if v2<(v0.length:Int) then match idx v0 v2 with
   |none=>none
   |some x1=>(match idx v1 v2 with
   |none=>none
   |some x2=>(bif (Pref02_Same x1 x2) then Plaw22_floatsL0 v0 v1 f (IntKind.i64.wrap (v2+1))
   else some (.inl ())))
   else some (.inr ())
def Plaw22_floats (F:Nat)(a0 a1:List (BitVec 64)):Option Bool:=
  if (a0.length:Int)=(a1.length:Int) then match Plaw22_floatsL0 a0 a1 F 0 with
   |none=>none
   |some (.inl _)=>some false
   |some (.inr _)=>some true
  else some false
def Plaw22_ExpectRebuilds (F:Nat)(a0:List (BitVec 64)):Option Bool:=
  if a0=[] then match Pexpect_Rebuild F ([]) with|none=>none|some (r1,r2,r3)=>(match Pref22_Rebuild F a0 with|none=>none|some (r4,r5,r6)=>(match Pexpect_Purity F ([]) with|none=>none|some (r7,r8)=>(match Pref22_Purity F a0 with|none=>none|some (r9,r10)=>(if (Plaw22_num r3)=r6 then if r1=r4 then match Plaw10_Same F r2 r5 with|none=>none|some r11=>(bif r11 then (bif (Pref02_Same r7 r9) then (if (Plaw22_num r8)=r10 then match Plaw22_floats F ([]) a0 with|none=>none|some r12=>(bif r12 then some true
   else some false)
   else some false)
   else some false)
   else some false)
   else some false
   else some false))))
  else if a0.length*8≤140737488355328 then match Pexpect_Rebuild F a0 with|none=>none|some (r13,r14,r15)=>(match Pref22_Rebuild F a0 with|none=>none|some (r16,r17,r18)=>(match Pexpect_Purity F a0 with|none=>none|some (r19,r20)=>(match Pref22_Purity F a0 with|none=>none|some (r21,r22)=>(if (Plaw22_num r15)=r18 then if r13=r16 then match Plaw10_Same F r14 r17 with|none=>none|some r23=>(bif r23 then (bif (Pref02_Same r19 r21) then (if (Plaw22_num r20)=r22 then match Plaw22_floats F a0 a0 with|none=>none|some r24=>(bif r24 then some true
   else some false)
   else some false)
   else some false)
   else some false)
   else some false
   else some false))))
   else none
end Go.Proofs.YtlgmimclpmolmaaDoor.Ab
