/- Functions of the program as plain functions, the functions alone. Written by G.py. No condition. -/
import Derived.Test.YtchgkmdonhdfeaaGreatDoorK1
set_option maxRecDepth 100000
set_option maxHeartbeats 4000000
set_option linter.unusedVariables false
set_option linter.unusedSimpArgs false
namespace Go.Proofs.YtchgkmdonhdfeaaGreatDoor.Ab
open Go
structure S83 where
  f_Re:BitVec 64
  f_Im:BitVec 64
  deriving DecidableEq
def Pref14_Copy (a0_N:Int)(a0_Stab a0_Destab:List Pl):Option (Int×(List Pl)×(List Pl)):=
  if a0_Stab=[] then if a0_Destab=[] then some (a0_N,[],[])
   else if a0_Destab.length*32≤140737488355328 then some (a0_N,[],a0_Destab)
   else none
  else if a0_Stab.length*32≤140737488355328 then if a0_Destab=[] then some (a0_N,a0_Stab,[])
   else if a0_Destab.length*32≤140737488355328 then some (a0_N,a0_Stab,a0_Destab)
   else none
   else none
def Ppauli_Check (a0_N:Int)(a0_X a0_Z:BitVec 64)(a0_Phase:Int):Int:=
  if a0_N<0 then 130
  else if a0_N>64 then 130
   else if a0_Phase<0 then 130
   else if a0_Phase>3 then 130
   else if a0_N<64 then if ((a0_X ||| a0_Z) >>> a0_N.toNat)=0#64 then 0
   else 130
   else 0
def Ppauli_right (a0_N:Int)(a0_X a0_Z:BitVec 64)(a0_Phase:Int):Bool:=
  decide ((Ppauli_Check a0_N a0_X a0_Z a0_Phase)=0)
def Ppauli_Hermitian (a0_N:Int)(a0_X a0_Z:BitVec 64)(a0_Phase:Int):Bool:=
  bif (Ppauli_right a0_N a0_X a0_Z a0_Phase) then decide ((a0_Phase.tmod 2)=0)
  else false
def Ptableau_CheckL0 (v0 v1 v2 v4:Int)(v5 v6:List Pl)(v7:Int)(v8 v9:BitVec 64)(v10 v11:Int)(v12 v13:BitVec 64)(v14:Int):Nat→Int→Option (Unit⊕(Unit))
  |0,_=>none
  |f+1,v3=>
   if v3<v2 then if v3=0 then if v7=v4 then bif (Ppauli_Hermitian v7 v8 v9 v10) then Ptableau_CheckL0 v0 v1 v2 v4 v5 v6 v7 v8 v9 v10 v11 v12 v13 v14 f (IntKind.i64.wrap (v3+1))
   else some (.inl ())
   else some (.inl ())
   else if v3=1 then if v11=v4 then bif (Ppauli_Hermitian v11 v12 v13 v14) then Ptableau_CheckL0 v0 v1 v2 v4 v5 v6 v7 v8 v9 v10 v11 v12 v13 v14 f (IntKind.i64.wrap (v3+1))
   else some (.inl ())
   else some (.inl ())
   else none
   else some (.inr ())
def Ptableau_CheckL1 (F:Nat)(v0 v2:Int)(v3 v4:List Pl):Nat→Int→Option (Unit⊕(Unit))
  |0,_=>none
  |f+1,v1=>
   if v1<v0 then match idx v3 v1 with
   |none=>none
   |some x1=>(match idx v4 v1 with
   |none=>none
   |some x2=>(match Ptableau_CheckL0 v0 v1 2 v2 v3 v4 x1.N x1.X x1.Z x1.Ph x2.N x2.X x2.Z x2.Ph F 0 with
   |none=>none
   |some (.inl _)=>some (.inl ())
   |some (.inr _)=>Ptableau_CheckL1 F v0 v2 v3 v4 f (IntKind.i64.wrap (v1+1))))
   else some (.inr ())
def Pbits_OnesCount64 (a0:BitVec 64):Int:=
  bitop .and .i64 (((((((((((((a0 >>> (1:Nat)) &&& 6148914691236517205#64)+(a0 &&& 6148914691236517205#64)) >>> (2:Nat)) &&& 3689348814741910323#64)+((((a0 >>> (1:Nat)) &&& 6148914691236517205#64)+(a0 &&& 6148914691236517205#64)) &&& 3689348814741910323#64)) >>> (4:Nat))+((((((a0 >>> (1:Nat)) &&& 6148914691236517205#64)+(a0 &&& 6148914691236517205#64)) >>> (2:Nat)) &&& 3689348814741910323#64)+((((a0 >>> (1:Nat)) &&& 6148914691236517205#64)+(a0 &&& 6148914691236517205#64)) &&& 3689348814741910323#64))) &&& 1085102592571150095#64)+((((((((((a0 >>> (1:Nat)) &&& 6148914691236517205#64)+(a0 &&& 6148914691236517205#64)) >>> (2:Nat)) &&& 3689348814741910323#64)+((((a0 >>> (1:Nat)) &&& 6148914691236517205#64)+(a0 &&& 6148914691236517205#64)) &&& 3689348814741910323#64)) >>> (4:Nat))+((((((a0 >>> (1:Nat)) &&& 6148914691236517205#64)+(a0 &&& 6148914691236517205#64)) >>> (2:Nat)) &&& 3689348814741910323#64)+((((a0 >>> (1:Nat)) &&& 6148914691236517205#64)+(a0 &&& 6148914691236517205#64)) &&& 3689348814741910323#64))) &&& 1085102592571150095#64) >>> (8:Nat)))+(((((((((((a0 >>> (1:Nat)) &&& 6148914691236517205#64)+(a0 &&& 6148914691236517205#64)) >>> (2:Nat)) &&& 3689348814741910323#64)+((((a0 >>> (1:Nat)) &&& 6148914691236517205#64)+(a0 &&& 6148914691236517205#64)) &&& 3689348814741910323#64)) >>> (4:Nat))+((((((a0 >>> (1:Nat)) &&& 6148914691236517205#64)+(a0 &&& 6148914691236517205#64)) >>> (2:Nat)) &&& 3689348814741910323#64)+((((a0 >>> (1:Nat)) &&& 6148914691236517205#64)+(a0 &&& 6148914691236517205#64)) &&& 3689348814741910323#64))) &&& 1085102592571150095#64)+((((((((((a0 >>> (1:Nat)) &&& 6148914691236517205#64)+(a0 &&& 6148914691236517205#64)) >>> (2:Nat)) &&& 3689348814741910323#64)+((((a0 >>> (1:Nat)) &&& 6148914691236517205#64)+(a0 &&& 6148914691236517205#64)) &&& 3689348814741910323#64)) >>> (4:Nat))+((((((a0 >>> (1:Nat)) &&& 6148914691236517205#64)+(a0 &&& 6148914691236517205#64)) >>> (2:Nat)) &&& 3689348814741910323#64)+((((a0 >>> (1:Nat)) &&& 6148914691236517205#64)+(a0 &&& 6148914691236517205#64)) &&& 3689348814741910323#64))) &&& 1085102592571150095#64) >>> (8:Nat))) >>> (16:Nat)))+((((((((((((a0 >>> (1:Nat)) &&& 6148914691236517205#64)+(a0 &&& 6148914691236517205#64)) >>> (2:Nat)) &&& 3689348814741910323#64)+((((a0 >>> (1:Nat)) &&& 6148914691236517205#64)+(a0 &&& 6148914691236517205#64)) &&& 3689348814741910323#64)) >>> (4:Nat))+((((((a0 >>> (1:Nat)) &&& 6148914691236517205#64)+(a0 &&& 6148914691236517205#64)) >>> (2:Nat)) &&& 3689348814741910323#64)+((((a0 >>> (1:Nat)) &&& 6148914691236517205#64)+(a0 &&& 6148914691236517205#64)) &&& 3689348814741910323#64))) &&& 1085102592571150095#64)+((((((((((a0 >>> (1:Nat)) &&& 6148914691236517205#64)+(a0 &&& 6148914691236517205#64)) >>> (2:Nat)) &&& 3689348814741910323#64)+((((a0 >>> (1:Nat)) &&& 6148914691236517205#64)+(a0 &&& 6148914691236517205#64)) &&& 3689348814741910323#64)) >>> (4:Nat))+((((((a0 >>> (1:Nat)) &&& 6148914691236517205#64)+(a0 &&& 6148914691236517205#64)) >>> (2:Nat)) &&& 3689348814741910323#64)+((((a0 >>> (1:Nat)) &&& 6148914691236517205#64)+(a0 &&& 6148914691236517205#64)) &&& 3689348814741910323#64))) &&& 1085102592571150095#64) >>> (8:Nat)))+(((((((((((a0 >>> (1:Nat)) &&& 6148914691236517205#64)+(a0 &&& 6148914691236517205#64)) >>> (2:Nat)) &&& 3689348814741910323#64)+((((a0 >>> (1:Nat)) &&& 6148914691236517205#64)+(a0 &&& 6148914691236517205#64)) &&& 3689348814741910323#64)) >>> (4:Nat))+((((((a0 >>> (1:Nat)) &&& 6148914691236517205#64)+(a0 &&& 6148914691236517205#64)) >>> (2:Nat)) &&& 3689348814741910323#64)+((((a0 >>> (1:Nat)) &&& 6148914691236517205#64)+(a0 &&& 6148914691236517205#64)) &&& 3689348814741910323#64))) &&& 1085102592571150095#64)+((((((((((a0 >>> (1:Nat)) &&& 6148914691236517205#64)+(a0 &&& 6148914691236517205#64)) >>> (2:Nat)) &&& 3689348814741910323#64)+((((a0 >>> (1:Nat)) &&& 6148914691236517205#64)+(a0 &&& 6148914691236517205#64)) &&& 3689348814741910323#64)) >>> (4:Nat))+((((((a0 >>> (1:Nat)) &&& 6148914691236517205#64)+(a0 &&& 6148914691236517205#64)) >>> (2:Nat)) &&& 3689348814741910323#64)+((((a0 >>> (1:Nat)) &&& 6148914691236517205#64)+(a0 &&& 6148914691236517205#64)) &&& 3689348814741910323#64))) &&& 1085102592571150095#64) >>> (8:Nat))) >>> (16:Nat))) >>> (32:Nat))).toInt) 127
def Ptableau_commute (a0_N:Int)(a0_X a0_Z:BitVec 64)(a0_Phase a1_N:Int)(a1_X a1_Z:BitVec 64)(a1_Phase:Int):Bool:=
  decide (((IntKind.i64.wrap (((Pbits_OnesCount64 (a0_X &&& a1_Z)))+((Pbits_OnesCount64 (a0_Z &&& a1_X))))).tmod 2)=0)
def Ptableau_CheckL2 (v0 v1 v2 v3 v5:Int)(v6 v7:List Pl):Nat→Int→Option (Unit⊕(Unit))
  |0,_=>none
  |f+1,v4=>
   if v4<v3 then match idx v6 v0 with
   |none=>none
   |some x1=>(match idx v6 v4 with
   |none=>none
   |some x2=>(bif (Ptableau_commute x1.N x1.X x1.Z x1.Ph x2.N x2.X x2.Z x2.Ph) then (match idx v7 v0 with
   |none=>none
   |some x3=>(match idx v7 v4 with
   |none=>none
   |some x4=>(bif (Ptableau_commute x3.N x3.X x3.Z x3.Ph x4.N x4.X x4.Z x4.Ph) then (if v0=v4 then bif (Ptableau_commute x3.N x3.X x3.Z x3.Ph x2.N x2.X x2.Z x2.Ph) then some (.inl ())
   else Ptableau_CheckL2 v0 v1 v2 v3 v5 v6 v7 f (IntKind.i64.wrap (v4+1))
   else bif (Ptableau_commute x3.N x3.X x3.Z x3.Ph x2.N x2.X x2.Z x2.Ph) then Ptableau_CheckL2 v0 v1 v2 v3 v5 v6 v7 f (IntKind.i64.wrap (v4+1))
   else some (.inl ()))
   else some (.inl ()))))
   else some (.inl ())))
   else some (.inr ())
def Ptableau_CheckL3 (F:Nat)(v0 v2:Int)(v3 v4:List Pl):Nat→Int→Option (Unit⊕(Unit))
  |0,_=>none
  |f+1,v1=>
   if v1<v0 then match Ptableau_CheckL2 v1 v0 v1 v2 v2 v3 v4 F 0 with
   |none=>none
   |some (.inl _)=>some (.inl ())
   |some (.inr _)=>Ptableau_CheckL3 F v0 v2 v3 v4 f (IntKind.i64.wrap (v1+1))
   else some (.inr ())
def Ptableau_Check (F:Nat)(a0_N:Int)(a0_Stab a0_Destab:List Pl):Option Int:=
  if a0_N<0 then some 140
  else if a0_N>64 then some 140
   else if (a0_Stab.length:Int)=a0_N then if (a0_Destab.length:Int)=a0_N then match Ptableau_CheckL1 F a0_N a0_N a0_Stab a0_Destab F 0 with
   |none=>none
   |some (.inl _)=>some 140
   |some (.inr _)=>(match Ptableau_CheckL3 F a0_N a0_N a0_Stab a0_Destab F 0 with
   |none=>none
   |some (.inl _)=>some 140
   |some (.inr _)=>some 0)
   else some 140
   else some 140
def Pstate_Basis (a0 a1:Int):Option ((List Cpx)×Int):=
  if a0<0 then some ([],90)
  else if a0>12 then some ([],90)
   else if a1<0 then some ([],90)
   else if a1≥(IntKind.i64.wrap (1*2 ^ (min (a0).toNat 64))) then some ([],90)
   else bif mkOk 16 (IntKind.i64.wrap (1*2 ^ (min (a0).toNat 64))) (IntKind.i64.wrap (1*2 ^ (min (a0).toNat 64))) then (match idx (List.replicate (IntKind.i64.wrap (1*2 ^ (min (a0).toNat 64))).toNat (⟨0#64,0#64⟩:Cpx)) a1 with
   |none=>none
   |some x1=>some ((List.replicate (IntKind.i64.wrap (1*2 ^ (min (a0).toNat 64))).toNat (⟨0#64,0#64⟩:Cpx)).set a1.toNat (⟨4607182418800017408#64,0#64⟩:Cpx),0))
   else none
def Pbits_Len64 (a0:BitVec 64):Option Int:=
  if U a0≥U 4294967296#64 then if U (a0 >>> (32:Nat))≥U 65536#64 then if U ((a0 >>> (32:Nat)) >>> (16:Nat))≥U 256#64 then match bidx (⟨#[0,1,2,2,3,3,3,3,4,4,4,4,4,4,4,4,5,5,5,5,5,5,5,5,5,5,5,5,5,5,5,5,6,6,6,6,6,6,6,6,6,6,6,6,6,6,6,6,6,6,6,6,6,6,6,6,6,6,6,6,6,6,6,6,7,7,7,7,7,7,7,7,7,7,7,7,7,7,7,7,7,7,7,7,7,7,7,7,7,7,7,7,7,7,7,7,7,7,7,7,7,7,7,7,7,7,7,7,7,7,7,7,7,7,7,7,7,7,7,7,7,7,7,7,7,7,7,7,8,8,8,8,8,8,8,8,8,8,8,8,8,8,8,8,8,8,8,8,8,8,8,8,8,8,8,8,8,8,8,8,8,8,8,8,8,8,8,8,8,8,8,8,8,8,8,8,8,8,8,8,8,8,8,8,8,8,8,8,8,8,8,8,8,8,8,8,8,8,8,8,8,8,8,8,8,8,8,8,8,8,8,8,8,8,8,8,8,8,8,8,8,8,8,8,8,8,8,8,8,8,8,8,8,8,8,8,8,8,8,8,8,8,8,8,8,8,8,8,8,8,8,8,8,8,8,8]⟩:ByteArray) (IntKind.u8.wrap (U (((a0 >>> (32:Nat)) >>> (16:Nat)) >>> (8:Nat)))) with
   |none=>none
   |some x1=>some (IntKind.i64.wrap ((IntKind.i64.wrap ((IntKind.i64.wrap (32+16))+8))+(IntKind.i64.wrap (x1))))
   else match bidx (⟨#[0,1,2,2,3,3,3,3,4,4,4,4,4,4,4,4,5,5,5,5,5,5,5,5,5,5,5,5,5,5,5,5,6,6,6,6,6,6,6,6,6,6,6,6,6,6,6,6,6,6,6,6,6,6,6,6,6,6,6,6,6,6,6,6,7,7,7,7,7,7,7,7,7,7,7,7,7,7,7,7,7,7,7,7,7,7,7,7,7,7,7,7,7,7,7,7,7,7,7,7,7,7,7,7,7,7,7,7,7,7,7,7,7,7,7,7,7,7,7,7,7,7,7,7,7,7,7,7,8,8,8,8,8,8,8,8,8,8,8,8,8,8,8,8,8,8,8,8,8,8,8,8,8,8,8,8,8,8,8,8,8,8,8,8,8,8,8,8,8,8,8,8,8,8,8,8,8,8,8,8,8,8,8,8,8,8,8,8,8,8,8,8,8,8,8,8,8,8,8,8,8,8,8,8,8,8,8,8,8,8,8,8,8,8,8,8,8,8,8,8,8,8,8,8,8,8,8,8,8,8,8,8,8,8,8,8,8,8,8,8,8,8,8,8,8,8,8,8,8,8,8,8,8,8,8,8]⟩:ByteArray) (IntKind.u8.wrap (U ((a0 >>> (32:Nat)) >>> (16:Nat)))) with
   |none=>none
   |some x2=>some (IntKind.i64.wrap ((IntKind.i64.wrap (32+16))+(IntKind.i64.wrap (x2))))
   else if U (a0 >>> (32:Nat))≥U 256#64 then match bidx (⟨#[0,1,2,2,3,3,3,3,4,4,4,4,4,4,4,4,5,5,5,5,5,5,5,5,5,5,5,5,5,5,5,5,6,6,6,6,6,6,6,6,6,6,6,6,6,6,6,6,6,6,6,6,6,6,6,6,6,6,6,6,6,6,6,6,7,7,7,7,7,7,7,7,7,7,7,7,7,7,7,7,7,7,7,7,7,7,7,7,7,7,7,7,7,7,7,7,7,7,7,7,7,7,7,7,7,7,7,7,7,7,7,7,7,7,7,7,7,7,7,7,7,7,7,7,7,7,7,7,8,8,8,8,8,8,8,8,8,8,8,8,8,8,8,8,8,8,8,8,8,8,8,8,8,8,8,8,8,8,8,8,8,8,8,8,8,8,8,8,8,8,8,8,8,8,8,8,8,8,8,8,8,8,8,8,8,8,8,8,8,8,8,8,8,8,8,8,8,8,8,8,8,8,8,8,8,8,8,8,8,8,8,8,8,8,8,8,8,8,8,8,8,8,8,8,8,8,8,8,8,8,8,8,8,8,8,8,8,8,8,8,8,8,8,8,8,8,8,8,8,8,8,8,8,8,8,8]⟩:ByteArray) (IntKind.u8.wrap (U ((a0 >>> (32:Nat)) >>> (8:Nat)))) with
   |none=>none
   |some x3=>some (IntKind.i64.wrap ((IntKind.i64.wrap (32+8))+(IntKind.i64.wrap (x3))))
   else match bidx (⟨#[0,1,2,2,3,3,3,3,4,4,4,4,4,4,4,4,5,5,5,5,5,5,5,5,5,5,5,5,5,5,5,5,6,6,6,6,6,6,6,6,6,6,6,6,6,6,6,6,6,6,6,6,6,6,6,6,6,6,6,6,6,6,6,6,7,7,7,7,7,7,7,7,7,7,7,7,7,7,7,7,7,7,7,7,7,7,7,7,7,7,7,7,7,7,7,7,7,7,7,7,7,7,7,7,7,7,7,7,7,7,7,7,7,7,7,7,7,7,7,7,7,7,7,7,7,7,7,7,8,8,8,8,8,8,8,8,8,8,8,8,8,8,8,8,8,8,8,8,8,8,8,8,8,8,8,8,8,8,8,8,8,8,8,8,8,8,8,8,8,8,8,8,8,8,8,8,8,8,8,8,8,8,8,8,8,8,8,8,8,8,8,8,8,8,8,8,8,8,8,8,8,8,8,8,8,8,8,8,8,8,8,8,8,8,8,8,8,8,8,8,8,8,8,8,8,8,8,8,8,8,8,8,8,8,8,8,8,8,8,8,8,8,8,8,8,8,8,8,8,8,8,8,8,8,8,8]⟩:ByteArray) (IntKind.u8.wrap (U (a0 >>> (32:Nat)))) with
   |none=>none
   |some x4=>some (IntKind.i64.wrap (32+(IntKind.i64.wrap (x4))))
  else if U a0≥U 65536#64 then if U (a0 >>> (16:Nat))≥U 256#64 then match bidx (⟨#[0,1,2,2,3,3,3,3,4,4,4,4,4,4,4,4,5,5,5,5,5,5,5,5,5,5,5,5,5,5,5,5,6,6,6,6,6,6,6,6,6,6,6,6,6,6,6,6,6,6,6,6,6,6,6,6,6,6,6,6,6,6,6,6,7,7,7,7,7,7,7,7,7,7,7,7,7,7,7,7,7,7,7,7,7,7,7,7,7,7,7,7,7,7,7,7,7,7,7,7,7,7,7,7,7,7,7,7,7,7,7,7,7,7,7,7,7,7,7,7,7,7,7,7,7,7,7,7,8,8,8,8,8,8,8,8,8,8,8,8,8,8,8,8,8,8,8,8,8,8,8,8,8,8,8,8,8,8,8,8,8,8,8,8,8,8,8,8,8,8,8,8,8,8,8,8,8,8,8,8,8,8,8,8,8,8,8,8,8,8,8,8,8,8,8,8,8,8,8,8,8,8,8,8,8,8,8,8,8,8,8,8,8,8,8,8,8,8,8,8,8,8,8,8,8,8,8,8,8,8,8,8,8,8,8,8,8,8,8,8,8,8,8,8,8,8,8,8,8,8,8,8,8,8,8,8]⟩:ByteArray) (IntKind.u8.wrap (U ((a0 >>> (16:Nat)) >>> (8:Nat)))) with
   |none=>none
   |some x5=>some (IntKind.i64.wrap ((IntKind.i64.wrap ((IntKind.i64.wrap (0+16))+8))+(IntKind.i64.wrap (x5))))
   else match bidx (⟨#[0,1,2,2,3,3,3,3,4,4,4,4,4,4,4,4,5,5,5,5,5,5,5,5,5,5,5,5,5,5,5,5,6,6,6,6,6,6,6,6,6,6,6,6,6,6,6,6,6,6,6,6,6,6,6,6,6,6,6,6,6,6,6,6,7,7,7,7,7,7,7,7,7,7,7,7,7,7,7,7,7,7,7,7,7,7,7,7,7,7,7,7,7,7,7,7,7,7,7,7,7,7,7,7,7,7,7,7,7,7,7,7,7,7,7,7,7,7,7,7,7,7,7,7,7,7,7,7,8,8,8,8,8,8,8,8,8,8,8,8,8,8,8,8,8,8,8,8,8,8,8,8,8,8,8,8,8,8,8,8,8,8,8,8,8,8,8,8,8,8,8,8,8,8,8,8,8,8,8,8,8,8,8,8,8,8,8,8,8,8,8,8,8,8,8,8,8,8,8,8,8,8,8,8,8,8,8,8,8,8,8,8,8,8,8,8,8,8,8,8,8,8,8,8,8,8,8,8,8,8,8,8,8,8,8,8,8,8,8,8,8,8,8,8,8,8,8,8,8,8,8,8,8,8,8,8]⟩:ByteArray) (IntKind.u8.wrap (U (a0 >>> (16:Nat)))) with
   |none=>none
   |some x6=>some (IntKind.i64.wrap ((IntKind.i64.wrap (0+16))+(IntKind.i64.wrap (x6))))
   else if U a0≥U 256#64 then match bidx (⟨#[0,1,2,2,3,3,3,3,4,4,4,4,4,4,4,4,5,5,5,5,5,5,5,5,5,5,5,5,5,5,5,5,6,6,6,6,6,6,6,6,6,6,6,6,6,6,6,6,6,6,6,6,6,6,6,6,6,6,6,6,6,6,6,6,7,7,7,7,7,7,7,7,7,7,7,7,7,7,7,7,7,7,7,7,7,7,7,7,7,7,7,7,7,7,7,7,7,7,7,7,7,7,7,7,7,7,7,7,7,7,7,7,7,7,7,7,7,7,7,7,7,7,7,7,7,7,7,7,8,8,8,8,8,8,8,8,8,8,8,8,8,8,8,8,8,8,8,8,8,8,8,8,8,8,8,8,8,8,8,8,8,8,8,8,8,8,8,8,8,8,8,8,8,8,8,8,8,8,8,8,8,8,8,8,8,8,8,8,8,8,8,8,8,8,8,8,8,8,8,8,8,8,8,8,8,8,8,8,8,8,8,8,8,8,8,8,8,8,8,8,8,8,8,8,8,8,8,8,8,8,8,8,8,8,8,8,8,8,8,8,8,8,8,8,8,8,8,8,8,8,8,8,8,8,8,8]⟩:ByteArray) (IntKind.u8.wrap (U (a0 >>> (8:Nat)))) with
   |none=>none
   |some x7=>some (IntKind.i64.wrap ((IntKind.i64.wrap (0+8))+(IntKind.i64.wrap (x7))))
   else match bidx (⟨#[0,1,2,2,3,3,3,3,4,4,4,4,4,4,4,4,5,5,5,5,5,5,5,5,5,5,5,5,5,5,5,5,6,6,6,6,6,6,6,6,6,6,6,6,6,6,6,6,6,6,6,6,6,6,6,6,6,6,6,6,6,6,6,6,7,7,7,7,7,7,7,7,7,7,7,7,7,7,7,7,7,7,7,7,7,7,7,7,7,7,7,7,7,7,7,7,7,7,7,7,7,7,7,7,7,7,7,7,7,7,7,7,7,7,7,7,7,7,7,7,7,7,7,7,7,7,7,7,8,8,8,8,8,8,8,8,8,8,8,8,8,8,8,8,8,8,8,8,8,8,8,8,8,8,8,8,8,8,8,8,8,8,8,8,8,8,8,8,8,8,8,8,8,8,8,8,8,8,8,8,8,8,8,8,8,8,8,8,8,8,8,8,8,8,8,8,8,8,8,8,8,8,8,8,8,8,8,8,8,8,8,8,8,8,8,8,8,8,8,8,8,8,8,8,8,8,8,8,8,8,8,8,8,8,8,8,8,8,8,8,8,8,8,8,8,8,8,8,8,8,8,8,8,8,8,8]⟩:ByteArray) (IntKind.u8.wrap (U a0)) with
   |none=>none
   |some x8=>some (IntKind.i64.wrap (0+(IntKind.i64.wrap (x8))))
def Pbits_Len (a0:BitVec 64):Option Int:=
  match Pbits_Len64 a0 with|none=>none|some r1=>some r1
def Pstate_Check (a0:List Cpx):Option (Int×Int):=
  match Pbits_Len (BitVec.ofInt 64 (a0.length:Int)) with|none=>none|some r1=>(if (IntKind.i64.wrap (r1-1))<0 then some (0,90)
   else if (IntKind.i64.wrap (r1-1))>12 then some (0,90)
   else if (a0.length:Int)=(IntKind.i64.wrap (1*2 ^ (min ((IntKind.i64.wrap (r1-1))).toNat 64))) then some (IntKind.i64.wrap (r1-1),0)
   else some (0,90))
def Pplane_Neg (a0_re a0_im:BitVec 64):(BitVec 64)×(BitVec 64):=
  (fNeg a0_re,fNeg a0_im)
def Pplane_Turn (a0_re a0_im:BitVec 64)(a1:Int):(BitVec 64)×(BitVec 64):=
  if (bitop .and .i64 a1 3)=1 then (fNeg a0_im,a0_re)
  else if (bitop .and .i64 a1 3)=2 then match Pplane_Neg a0_re a0_im with
   |(r1,r2)=>(r1,r2)
   else if (bitop .and .i64 a1 3)=3 then (a0_im,fNeg a0_re)
   else (a0_re,a0_im)
def Pscalar_Plus (a0:BitVec 64):BitVec 64:=
  fAdd a0 0#64
def Pplane_Clean (a0_re a0_im:BitVec 64):(BitVec 64)×(BitVec 64):=
  ((Pscalar_Plus a0_re),(Pscalar_Plus a0_im))
def Ppauli_ActL0 (v0:List Cpx)(v1 v3:Int)(v4 v5:BitVec 64)(v6:Int):Nat→Int→List Cpx→Option (List Cpx)
  |0,_,_=>none
  |f+1,v2,v7=>
   if v2<v1 then match idx v0 v2 with
   |none=>none
   |some x1=>(match Pplane_Turn x1.re x1.im (IntKind.i64.wrap ((IntKind.i64.wrap (v6+((Pbits_OnesCount64 (v4 &&& v5)))))+(IntKind.i64.wrap (2*((Pbits_OnesCount64 ((BitVec.ofInt 64 v2) &&& v5))))))) with
   |(r2,r3)=>(match Pplane_Clean r2 r3 with
   |(r4,r5)=>(match idx v7 (bitop .xor .i64 v2 v4.toInt) with
   |none=>none
   |some x6=>Ppauli_ActL0 v0 v1 v3 v4 v5 v6 f (IntKind.i64.wrap (v2+1)) ((v7).set (bitop .xor .i64 v2 v4.toInt).toNat (⟨r4,r5⟩:Cpx)))))
   else some (v7)
theorem lpauli_ActL0n0_0 (v0:List Cpx)(v1 v3:Int)(v4 v5:BitVec 64)(v6:Int):∀ (f:Nat) (v2:Int) (v7 y0:List Cpx),Ppauli_ActL0 v0 v1 v3 v4 v5 v6 f v2 v7=some (y0)→y0.length=v7.length:=by
 intro f
 induction f with
 |zero=>intro v2 v7 y0 h;simp only [Ppauli_ActL0] at h;cases h
 |succ f ih=>
 intro v2 v7 y0 h
 simp only [Ppauli_ActL0,Bool.cond_eq_ite] at h
 (repeat' split at h)<;>first
 |(cases h;done)
 |(cases h;simp only [List.length_set];done)
 |(cases h;rfl)
 |(have q:=ih _ _ _ h;simpa only [List.length_set] using q)
 |(have q:=ih _ _ _ h;(try simp only [List.length_set] at *);omega)
 |(cases h;(try simp only [List.length_set] at *);omega)
def Ppauli_Act (F:Nat)(a0_N:Int)(a0_X a0_Z:BitVec 64)(a0_Phase:Int)(a1:List Cpx):Option ((List Cpx)×Int):=
  match Pstate_Check a1 with|none=>none|some (r1,r2)=>(if r2=0 then bif (Ppauli_right a0_N a0_X a0_Z a0_Phase) then (if a0_N=r1 then bif mkOk 16 (a1.length:Int) (a1.length:Int) then (match Ppauli_ActL0 a1 (a1.length:Int) a0_N a0_X a0_Z a0_Phase F 0 (List.replicate a1.length (⟨0#64,0#64⟩:Cpx)) with
   |none=>none
   |some y3=>some (y3,0))
   else none
   else some ([],130))
   else some ([],130)
   else some ([],90))
def Pplane_Add (a0_re a0_im a1_re a1_im:BitVec 64):(BitVec 64)×(BitVec 64):=
  (fAdd a0_re a1_re,fAdd a0_im a1_im)
def Pstab_StateL0 (v0 v1:List Cpx)(v2 v3:Int)(v4:List Pl)(v5 v6:Int)(v7:List Cpx)(v8 v9 v10:Int)(v11 v12:List Pl):Nat→Option Unit
  |0=>none
  |f+1=>
   if v9<v8 then match idx v7 v9 with
   |none=>none
   |some x1=>(match idx v1 v9 with
   |none=>none
   |some x2=>(match Pplane_Add x1.re x1.im x2.re x2.im with
   |(r3,r4)=>(match idx v0 v9 with
   |none=>none
   |some x5=>none)))
   else some ()
def Pstab_StateL1 (F:Nat)(v0:List Cpx)(v1 v2:Int)(v3:List Pl)(v4 v6:Int)(v7 v8:List Pl):Nat→Int→Option Unit
  |0,_=>none
  |f+1,v5=>
   if v5<v4 then match idx v3 v5 with
   |none=>none
   |some x1=>(match Ppauli_Act F x1.N x1.X x1.Z x1.Ph v0 with|none=>none|some (r2,r3)=>(match Pstab_StateL0 v0 r2 v1 v2 v3 v4 v5 v0 (v0.length:Int) 0 v6 v7 v8 F with|none=>none|some _=>Pstab_StateL1 F v0 v1 v2 v3 v4 v6 v7 v8 f (IntKind.i64.wrap (v5+1))))
   else some ()
def Pstab_State_1 (a0_re a0_im:BitVec 64):Bool:=
  !(cEq a0_re a0_im 0#64 0#64)
def Pstab_StateL2 (v0:List Cpx)(v1:Int):Nat→Int→Option (Int⊕(Unit))
  |0,_=>none
  |f+1,v2=>
   if v2<v1 then match idx v0 v2 with
   |none=>none
   |some x1=>(bif (Pstab_State_1 x1.re x1.im) then some (.inl v2)
   else Pstab_StateL2 v0 v1 f (IntKind.i64.wrap (v2+1)))
   else some (.inr ())
def Pstab_StateL3 (v0:List Cpx)(v1 v2:Int)(v3:List Pl)(v4 v5 v6 v8:Int)(v9 v10:List Pl):Nat→Int→List Cpx→Option (List Cpx)
  |0,_,_=>none
  |f+1,v7,v11=>
   if v7<v6 then match idx v11 v7 with
   |none=>none
   |some x1=>(match idx v0 v7 with
   |none=>none
   |some x2=>(match Pplane_Add x1.re x1.im x2.re x2.im with
   |(r3,r4)=>Pstab_StateL3 v0 v1 v2 v3 v4 v5 v6 v8 v9 v10 f (IntKind.i64.wrap (v7+1)) ((v11).set v7.toNat (⟨fMul r3 4602678819172646912#64,fMul r4 4602678819172646912#64⟩:Cpx))))
   else some (v11)
theorem lstab_StateL3n0_0 (v0:List Cpx)(v1 v2:Int)(v3:List Pl)(v4 v5 v6 v8:Int)(v9 v10:List Pl):∀ (f:Nat) (v7:Int) (v11 y0:List Cpx),Pstab_StateL3 v0 v1 v2 v3 v4 v5 v6 v8 v9 v10 f v7 v11=some (y0)→y0.length=v11.length:=by
 intro f
 induction f with
 |zero=>intro v7 v11 y0 h;simp only [Pstab_StateL3] at h;cases h
 |succ f ih=>
 intro v7 v11 y0 h
 simp only [Pstab_StateL3,Bool.cond_eq_ite] at h
 (repeat' split at h)<;>first
 |(cases h;done)
 |(cases h;simp only [List.length_set];done)
 |(cases h;rfl)
 |(have q:=ih _ _ _ h;simpa only [List.length_set] using q)
 |(have q:=ih _ _ _ h;(try simp only [List.length_set] at *);omega)
 |(cases h;(try simp only [List.length_set] at *);omega)
def Pstab_StateL4 (F:Nat)(v0 v1:Int)(v2:List Pl)(v3 v5:Int)(v6 v7:List Pl):Nat→Int→List Cpx→Option (List Cpx)
  |0,_,_=>none
  |f+1,v4,v8=>
   if v4<v3 then match idx v2 v4 with
   |none=>none
   |some x1=>(match Ppauli_Act F x1.N x1.X x1.Z x1.Ph v8 with|none=>none|some (r2,r3)=>(match Pstab_StateL3 r2 v0 v1 v2 v3 v4 ((v8.length:Nat):Int) v5 v6 v7 F 0 v8 with
   |none=>none
   |some y4=>Pstab_StateL4 F v0 v1 v2 v3 v5 v6 v7 f (IntKind.i64.wrap (v4+1)) y4))
   else some (v8)
theorem lstab_StateL4n0_0 (F:Nat)(v0 v1:Int)(v2:List Pl)(v3 v5:Int)(v6 v7:List Pl):∀ (f:Nat) (v4:Int) (v8 y0:List Cpx),Pstab_StateL4 F v0 v1 v2 v3 v5 v6 v7 f v4 v8=some (y0)→y0.length=v8.length:=by
 intro f
 induction f with
 |zero=>intro v4 v8 y0 h;simp only [Pstab_StateL4] at h;cases h
 |succ f ih=>
 intro v4 v8 y0 h
 simp only [Pstab_StateL4,Bool.cond_eq_ite] at h
 (repeat' split at h)<;>first
 |(cases h;done)
 |(cases h;simp only [List.length_set];done)
 |(cases h;rfl)
 |(have q:=ih _ _ _ h;simpa only [List.length_set] using q)
 |(have q:=ih _ _ _ h;(try have r0:=lstab_StateL3n0_0 _ _ _ _ _ _ _ _ _ _ _ _ _ _ (by assumption));(try simp only [List.length_set] at *);omega)
 |(cases h;(try have r0:=lstab_StateL3n0_0 _ _ _ _ _ _ _ _ _ _ _ _ _ _ (by assumption));(try simp only [List.length_set] at *);omega)
def Pstab_StateL5 (F:Nat)(v0 v2:Int)(v3 v4:List Pl):Nat→Int→Option (Unit⊕((List Cpx)⊕(Unit)))
  |0,_=>none
  |f+1,v1=>
   if v1<v0 then match Pstate_Basis v2 v1 with|none=>none|some (r1,r2)=>(if r1=[] then match Pstab_StateL1 F ([]) v0 v1 v3 (v3.length:Int) v2 v3 v4 F 0 with|none=>none|some _=>(match Pstab_StateL2 ([]) (([]:List Cpx).length:Int) F 0 with
   |none=>none
   |some (.inl y3)=>(if y3≥0 then some (.inl ())
   else Pstab_StateL5 F v0 v2 v3 v4 f (IntKind.i64.wrap (v1+1)))
   |some (.inr _)=>Pstab_StateL5 F v0 v2 v3 v4 f (IntKind.i64.wrap (v1+1)))
   else match Pstab_StateL4 F v0 v1 v3 (v3.length:Int) v2 v3 v4 F 0 r1 with
   |none=>none
   |some y4=>(match Pstab_StateL2 y4 (y4.length:Int) F 0 with
   |none=>none
   |some (.inl y5)=>(if y5≥0 then some (.inr (.inl y4))
   else Pstab_StateL5 F v0 v2 v3 v4 f (IntKind.i64.wrap (v1+1)))
   |some (.inr _)=>Pstab_StateL5 F v0 v2 v3 v4 f (IntKind.i64.wrap (v1+1))))
   else some (.inr (.inr ()))
def Pstab_State (F:Nat)(a0_N:Int)(a0_Stab a0_Destab:List Pl):Option ((List Cpx)×Int):=
  match Ptableau_Check F a0_N a0_Stab a0_Destab with|none=>none|some r1=>(if r1=0 then if a0_N>12 then some ([],150)
   else if a0_N<0 then none
   else match Pstab_StateL5 F (IntKind.i64.wrap (1*2 ^ (min (a0_N).toNat 64))) a0_N a0_Stab a0_Destab F 0 with
   |none=>none
   |some (.inl _)=>some ([],0)
   |some (.inr (.inl y2))=>some (y2,0)
   |some (.inr (.inr _))=>some ([],150)
   else some ([],140))
def Pref13_bit (a0:BitVec 64)(a1:Int):Int:=
  ((a0 >>> ((BitVec.ofInt 64 a1)).toNat) &&& 1#64).toInt
def Pref13_RightL0 (v1:Int)(v2 v3:BitVec 64)(v4:Int):Nat→Int→Option (Unit⊕(Unit))
  |0,_=>none
  |f+1,v0=>
   if v0<64 then if (Pref13_bit v2 v0)=1 then some (.inl ())
   else if (Pref13_bit v3 v0)=1 then some (.inl ())
   else Pref13_RightL0 v1 v2 v3 v4 f (IntKind.i64.wrap (v0+1))
   else some (.inr ())
def Pref13_Right (F:Nat)(a0_N:Int)(a0_X a0_Z:BitVec 64)(a0_Phase:Int):Option Bool:=
  if a0_N<0 then some false
  else if a0_N>64 then some false
   else if a0_Phase<0 then some false
   else if a0_Phase>3 then some false
   else match Pref13_RightL0 a0_N a0_X a0_Z a0_Phase F a0_N with
   |none=>none
   |some (.inl _)=>some false
   |some (.inr _)=>some true
def Pref14_RightL0 (F:Nat)(v0 v1 v3:Int)(v4 v5:List Pl):Nat→Int→Option (Unit⊕(Unit))
  |0,_=>none
  |f+1,v2=>
   if v2<2 then match idx v4 v1 with
   |none=>none
   |some x1=>(if v2=1 then match idx v5 v1 with
   |none=>none
   |some x2=>(match Pref13_Right F x2.N x2.X x2.Z x2.Ph with|none=>none|some r3=>(bif r3 then (if x2.N=v0 then if (x2.Ph.tmod 2)=1 then some (.inl ())
   else Pref14_RightL0 F v0 v1 v3 v4 v5 f (IntKind.i64.wrap (v2+1))
   else some (.inl ()))
   else some (.inl ())))
   else match Pref13_Right F x1.N x1.X x1.Z x1.Ph with|none=>none|some r4=>(bif r4 then (if x1.N=v0 then if (x1.Ph.tmod 2)=1 then some (.inl ())
   else Pref14_RightL0 F v0 v1 v3 v4 v5 f (IntKind.i64.wrap (v2+1))
   else some (.inl ()))
   else some (.inl ())))
   else some (.inr ())
def Pref14_RightL1 (F:Nat)(v0 v2:Int)(v3 v4:List Pl):Nat→Int→Option (Unit⊕(Unit))
  |0,_=>none
  |f+1,v1=>
   if v1<v0 then match Pref14_RightL0 F v0 v1 v2 v3 v4 F 0 with
   |none=>none
   |some (.inl _)=>some (.inl ())
   |some (.inr _)=>Pref14_RightL1 F v0 v2 v3 v4 f (IntKind.i64.wrap (v1+1))
   else some (.inr ())
def Pref14_commuteL0  : Nat→Int→BitVec 64→Option Int
  |0,_,_=>none
  |f+1,v0,v1=>
   if v1=0#64 then some (v0)
   else Pref14_commuteL0 f (IntKind.i64.wrap (v0+1)) (v1 &&& (v1-1#64))
def Pref14_commute (F:Nat)(a0_N:Int)(a0_X a0_Z:BitVec 64)(a0_Phase a1_N:Int)(a1_X a1_Z:BitVec 64)(a1_Phase:Int):Option Bool:=
  match Pref14_commuteL0 F 0 ((a0_X &&& a1_Z) ^^^ (a0_Z &&& a1_X)) with
  |none=>none
  |some y1=>some (decide ((y1.tmod 2)=0))
def Pref14_RightL2 (F:Nat)(v0 v1 v3:Int)(v4 v5:List Pl):Nat→Int→Option (Unit⊕(Unit))
  |0,_=>none
  |f+1,v2=>
   if v2<v0 then match idx v4 v1 with
   |none=>none
   |some x1=>(match idx v4 v2 with
   |none=>none
   |some x2=>(match Pref14_commute F x1.N x1.X x1.Z x1.Ph x2.N x2.X x2.Z x2.Ph with|none=>none|some r3=>(bif r3 then (match idx v5 v1 with
   |none=>none
   |some x4=>(match idx v5 v2 with
   |none=>none
   |some x5=>(match Pref14_commute F x4.N x4.X x4.Z x4.Ph x5.N x5.X x5.Z x5.Ph with|none=>none|some r6=>(bif r6 then (match Pref14_commute F x4.N x4.X x4.Z x4.Ph x2.N x2.X x2.Z x2.Ph with|none=>none|some r7=>(if v1=v2 then bif r7 then some (.inl ())
   else Pref14_RightL2 F v0 v1 v3 v4 v5 f (IntKind.i64.wrap (v2+1))
   else bif r7 then Pref14_RightL2 F v0 v1 v3 v4 v5 f (IntKind.i64.wrap (v2+1))
   else some (.inl ())))
   else some (.inl ())))))
   else some (.inl ()))))
   else some (.inr ())
def Pref14_RightL3 (F:Nat)(v0 v2:Int)(v3 v4:List Pl):Nat→Int→Option (Unit⊕(Unit))
  |0,_=>none
  |f+1,v1=>
   if v1<v0 then match Pref14_RightL2 F v0 v1 v2 v3 v4 F 0 with
   |none=>none
   |some (.inl _)=>some (.inl ())
   |some (.inr _)=>Pref14_RightL3 F v0 v2 v3 v4 f (IntKind.i64.wrap (v1+1))
   else some (.inr ())
def Pref14_Right (F:Nat)(a0_N:Int)(a0_Stab a0_Destab:List Pl):Option Bool:=
  if a0_N<0 then some false
  else if a0_N>64 then some false
   else if (a0_Stab.length:Int)=a0_N then if (a0_Destab.length:Int)=a0_N then match Pref14_RightL1 F a0_N a0_N a0_Stab a0_Destab F 0 with
   |none=>none
   |some (.inl _)=>some false
   |some (.inr _)=>(match Pref14_RightL3 F a0_N a0_N a0_Stab a0_Destab F 0 with
   |none=>none
   |some (.inl _)=>some false
   |some (.inr _)=>some true)
   else some false
   else some false
def Pref09_Basis (a0 a1:Int):Option ((List S83)×Int):=
  if a0<0 then some ([],90)
  else if a0>12 then some ([],90)
   else if a1<0 then some ([],90)
   else if a1≥(IntKind.i64.wrap (1*2 ^ (min (U (BitVec.ofInt 64 a0)).toNat 64))) then some ([],90)
   else bif mkOk 16 (IntKind.i64.wrap (1*2 ^ (min (U (BitVec.ofInt 64 a0)).toNat 64))) (IntKind.i64.wrap (1*2 ^ (min (U (BitVec.ofInt 64 a0)).toNat 64))) then (match idx (List.replicate (IntKind.i64.wrap (1*2 ^ (min (U (BitVec.ofInt 64 a0)).toNat 64))).toNat (⟨0#64,0#64⟩:S83)) a1 with
   |none=>none
   |some x1=>some ((List.replicate (IntKind.i64.wrap (1*2 ^ (min (U (BitVec.ofInt 64 a0)).toNat 64))).toNat (⟨0#64,0#64⟩:S83)).set a1.toNat (⟨4607182418800017408#64,x1.f_Im⟩:S83),0))
   else none
def Pref03_Equal (a0_Re a0_Im a1_Re a1_Im:BitVec 64):Bool:=
  bif fCmp .eql a0_Re a1_Re then fCmp .eql a0_Im a1_Im
  else false
def Pref15_noneL0 (v0:List S83):Nat→Int→Option (Unit⊕(Unit))
  |0,_=>none
  |f+1,v1=>
   if v1<(v0.length:Int) then match idx v0 v1 with
   |none=>none
   |some x1=>(bif (Pref03_Equal x1.f_Re x1.f_Im 0#64 0#64) then Pref15_noneL0 v0 f (IntKind.i64.wrap (v1+1))
   else some (.inl ()))
   else some (.inr ())
def Pref15_none (F:Nat)(a0:List S83):Option Bool:=
  match Pref15_noneL0 a0 F 0 with
  |none=>none
  |some (.inl _)=>some false
  |some (.inr _)=>some true
def Pref09_QubitsL0 (v0:Int):Nat→Int→Option (Int⊕(Unit))
  |0,_=>none
  |f+1,v1=>
   if v1≤12 then if v0=(IntKind.i64.wrap (1*2 ^ (min (U (BitVec.ofInt 64 v1)).toNat 64))) then some (.inl v1)
   else Pref09_QubitsL0 v0 f (IntKind.i64.wrap (v1+1))
   else some (.inr ())
def Pref09_Qubits (F:Nat)(a0:Int):Option Int:=
  match Pref09_QubitsL0 a0 F 0 with
  |none=>none
  |some (.inl y1)=>some y1
  |some (.inr _)=>some ((-1):Int)
def Pref13_Letter (F:Nat)(a0_N:Int)(a0_X a0_Z:BitVec 64)(a0_Phase a1:Int):Option Int:=
  match Pref13_Right F a0_N a0_X a0_Z a0_Phase with|none=>none|some r1=>(bif r1 then (if a1<0 then some 0
   else if a1≥a0_N then some 0
   else if (IntKind.i64.wrap ((IntKind.i64.wrap (2*(Pref13_bit a0_X a1)))+(Pref13_bit a0_Z a1)))=1 then some 90
   else if (IntKind.i64.wrap ((IntKind.i64.wrap (2*(Pref13_bit a0_X a1)))+(Pref13_bit a0_Z a1)))=2 then some 88
   else if (IntKind.i64.wrap ((IntKind.i64.wrap (2*(Pref13_bit a0_X a1)))+(Pref13_bit a0_Z a1)))=3 then some 89
   else some 73)
   else some 0)
def Pref13_ActL0 (F:Nat)  : Nat→List S83→Int→Int→Int→BitVec 64→BitVec 64→Int→List Int→Option (((List S83)×Int×Int×(BitVec 64)×(BitVec 64)×Int)⊕((List S83)×Int×Int×(BitVec 64)×(BitVec 64)×Int×(List Int)))
  |0,_,_,_,_,_,_,_,_=>none
  |f+1,v0,v1,v2,v3,v4,v5,v6,v7=>
   if v2<v1 then match Pref13_Letter F v3 v4 v5 v6 v2 with|none=>none|some r1=>(if v7.length≤140737488355327 then Pref13_ActL0 F f v0 v1 (IntKind.i64.wrap (v2+1)) v3 v4 v5 v6 (v7++[r1])
   else none)
   else some (.inr (v0,v1,v3,v4,v5,v6,v7))
def Pref13_ActL1 (F:Nat)  : Nat→List S83→Int→Int→Int→BitVec 64→BitVec 64→Int→Option (((List S83)×Int×Int×(BitVec 64)×(BitVec 64)×Int)⊕((List S83)×Int×Int×(BitVec 64)×(BitVec 64)×Int×(List Int)))
  |0,_,_,_,_,_,_,_=>none
  |f+1,v0,v1,v2,v3,v4,v5,v6=>
   if v2<v1 then match Pref13_Letter F v3 v4 v5 v6 v2 with|none=>none|some r1=>Pref13_ActL0 F f v0 v1 (IntKind.i64.wrap (v2+1)) v3 v4 v5 v6 ([r1])
   else some (.inl (v0,v1,v3,v4,v5,v6))
def Pref13_ActL2 (v0:List S83)(v1 v2 v3 v4 v5 v6:Int)(v7 v8:BitVec 64)(v9:Int)(v10:List S83):Nat→Option Unit
  |0=>none
  |f+1=>
   if v5<v1 then none
   else some ()
def Pref03_Turn (a0_Re a0_Im:BitVec 64)(a1:Int):Option ((BitVec 64)×(BitVec 64)):=
  if 4#64=0#64 then none
  else if ((BitVec.ofInt 64 a1) % 4#64)=1#64 then some (fNeg a0_Im,a0_Re)
   else if ((BitVec.ofInt 64 a1) % 4#64)=2#64 then some (fNeg a0_Re,fNeg a0_Im)
   else if ((BitVec.ofInt 64 a1) % 4#64)=3#64 then some (a0_Im,fNeg a0_Re)
   else some (a0_Re,a0_Im)
def Pref03_Clean (a0_Re a0_Im:BitVec 64):(BitVec 64)×(BitVec 64):=
  (fAdd a0_Re 0#64,fAdd a0_Im 0#64)
def Pref13_ActL3 (F:Nat)(v0:List S83)(v1 v3:Int)(v4 v5:BitVec 64)(v6:Int):Nat→Int→List S83→Option (List S83)
  |0,_,_=>none
  |f+1,v2,v7=>
   if v2<(v0.length:Int) then match Pref13_ActL2 v0 v1 v2 v2 v6 0 v3 v4 v5 v6 v7 F with|none=>none|some _=>(match idx v0 v2 with
   |none=>none
   |some x1=>(match Pref03_Turn x1.f_Re x1.f_Im v6 with|none=>none|some (r2,r3)=>(match Pref03_Clean r2 r3 with
   |(r4,r5)=>(match idx v7 v2 with
   |none=>none
   |some x6=>Pref13_ActL3 F v0 v1 v3 v4 v5 v6 f (IntKind.i64.wrap (v2+1)) ((v7).set v2.toNat (⟨r4,r5⟩:S83))))))
   else some (v7)
theorem lref13_ActL3n0_0 (F:Nat)(v0:List S83)(v1 v3:Int)(v4 v5:BitVec 64)(v6:Int):∀ (f:Nat) (v2:Int) (v7 y0:List S83),Pref13_ActL3 F v0 v1 v3 v4 v5 v6 f v2 v7=some (y0)→y0.length=v7.length:=by
 intro f
 induction f with
 |zero=>intro v2 v7 y0 h;simp only [Pref13_ActL3] at h;cases h
 |succ f ih=>
 intro v2 v7 y0 h
 simp only [Pref13_ActL3,Bool.cond_eq_ite] at h
 (repeat' split at h)<;>first
 |(cases h;done)
 |(cases h;simp only [List.length_set];done)
 |(cases h;rfl)
 |(have q:=ih _ _ _ h;simpa only [List.length_set] using q)
 |(have q:=ih _ _ _ h;(try simp only [List.length_set] at *);omega)
 |(cases h;(try simp only [List.length_set] at *);omega)
def Pref13_ActL4 (v0:List S83)(v1 v2 v6:Int)(v7 v8:BitVec 64)(v9:Int)(v10:List Int)(v11:List S83):Nat→Int→Int→Int→Option (Int×Int)
  |0,_,_,_=>none
  |f+1,v3,v4,v5=>
   if v5<v1 then match idx v10 v5 with
   |none=>none
   |some x1=>(if x1=88 then Pref13_ActL4 v0 v1 v2 v6 v7 v8 v9 v10 v11 f (bitop .xor .i64 v3 (IntKind.i64.wrap (1*2 ^ (min (U (BitVec.ofInt 64 v5)).toNat 64)))) v4 (IntKind.i64.wrap (v5+1))
   else if x1=89 then if (bitop .and .i64 (v2.fdiv (2 ^ (min (U (BitVec.ofInt 64 v5)).toNat 64))) 1)=1 then Pref13_ActL4 v0 v1 v2 v6 v7 v8 v9 v10 v11 f (bitop .xor .i64 v3 (IntKind.i64.wrap (1*2 ^ (min (U (BitVec.ofInt 64 v5)).toNat 64)))) (IntKind.i64.wrap ((IntKind.i64.wrap (v4+1))+2)) (IntKind.i64.wrap (v5+1))
   else Pref13_ActL4 v0 v1 v2 v6 v7 v8 v9 v10 v11 f (bitop .xor .i64 v3 (IntKind.i64.wrap (1*2 ^ (min (U (BitVec.ofInt 64 v5)).toNat 64)))) (IntKind.i64.wrap (v4+1)) (IntKind.i64.wrap (v5+1))
   else if x1=90 then if (bitop .and .i64 (v2.fdiv (2 ^ (min (U (BitVec.ofInt 64 v5)).toNat 64))) 1)=1 then Pref13_ActL4 v0 v1 v2 v6 v7 v8 v9 v10 v11 f v3 (IntKind.i64.wrap (v4+2)) (IntKind.i64.wrap (v5+1))
   else Pref13_ActL4 v0 v1 v2 v6 v7 v8 v9 v10 v11 f v3 v4 (IntKind.i64.wrap (v5+1))
   else Pref13_ActL4 v0 v1 v2 v6 v7 v8 v9 v10 v11 f v3 v4 (IntKind.i64.wrap (v5+1)))
   else some (v3,v4)
def Pref13_ActL5 (F:Nat)(v0:List S83)(v1 v3:Int)(v4 v5:BitVec 64)(v6:Int)(v7:List Int):Nat→Int→List S83→Option (List S83)
  |0,_,_=>none
  |f+1,v2,v8=>
   if v2<(v0.length:Int) then match Pref13_ActL4 v0 v1 v2 v3 v4 v5 v6 v7 v8 F v2 v6 0 with
   |none=>none
   |some (y1,y2)=>(match idx v0 v2 with
   |none=>none
   |some x3=>(match Pref03_Turn x3.f_Re x3.f_Im y2 with|none=>none|some (r4,r5)=>(match Pref03_Clean r4 r5 with
   |(r6,r7)=>(match idx v8 y1 with
   |none=>none
   |some x8=>Pref13_ActL5 F v0 v1 v3 v4 v5 v6 v7 f (IntKind.i64.wrap (v2+1)) ((v8).set y1.toNat (⟨r6,r7⟩:S83))))))
   else some (v8)
def Pref13_Act (F:Nat)(a0_N:Int)(a0_X a0_Z:BitVec 64)(a0_Phase:Int)(a1:List S83):Option ((List S83)×Int):=
  match Pref09_Qubits F (a1.length:Int) with|none=>none|some r1=>(if r1<0 then some ([],90)
   else match Pref13_Right F a0_N a0_X a0_Z a0_Phase with|none=>none|some r2=>(bif r2 then (if a0_N=r1 then match Pref13_ActL1 F F a1 r1 0 a0_N a0_X a0_Z a0_Phase with
   |none=>none
   |some (.inl (y3,y4,y5,y6,y7,y8))=>(bif mkOk 16 (y3.length:Int) (y3.length:Int) then (match Pref13_ActL3 F y3 y4 y5 y6 y7 y8 F 0 (List.replicate y3.length (⟨0#64,0#64⟩:S83)) with
   |none=>none
   |some y16=>some (y16,0))
   else none)
   |some (.inr (y9,y10,y11,y12,y13,y14,y15))=>(bif mkOk 16 (y9.length:Int) (y9.length:Int) then (match Pref13_ActL5 F y9 y10 y11 y12 y13 y14 y15 F 0 (List.replicate y9.length (⟨0#64,0#64⟩:S83)) with
   |none=>none
   |some y17=>some (y17,0))
   else none)
   else some ([],130))
   else some ([],130)))
def Pref03_Add (a0_Re a0_Im a1_Re a1_Im:BitVec 64):(BitVec 64)×(BitVec 64):=
  (fAdd a0_Re a1_Re,fAdd a0_Im a1_Im)
def Pref15_halfL0  : Nat→List S83→List S83→Int→List S83→Option (Unit⊕(List S83))
  |0,_,_,_,_=>none
  |f+1,v0,v1,v2,v3=>
   if v2<(v0.length:Int) then match idx v0 v2 with
   |none=>none
   |some x1=>(match idx v1 v2 with
   |none=>none
   |some x2=>(match Pref03_Add x1.f_Re x1.f_Im x2.f_Re x2.f_Im with
   |(r3,r4)=>(match Pref03_Clean (fMul r3 4602678819172646912#64) (fMul r4 4602678819172646912#64) with
   |(r5,r6)=>(if (v3.length+1)*16≤140737488355328 then Pref15_halfL0 f v0 v1 (IntKind.i64.wrap (v2+1)) (v3++[(⟨r5,r6⟩:S83)])
   else none))))
   else some (.inr v3)
def Pref15_halfL1  : Nat→List S83→List S83→Int→Option (Unit⊕(List S83))
  |0,_,_,_=>none
  |f+1,v0,v1,v2=>
   if v2<(v0.length:Int) then match idx v0 v2 with
   |none=>none
   |some x1=>(match idx v1 v2 with
   |none=>none
   |some x2=>(match Pref03_Add x1.f_Re x1.f_Im x2.f_Re x2.f_Im with
   |(r3,r4)=>(match Pref03_Clean (fMul r3 4602678819172646912#64) (fMul r4 4602678819172646912#64) with
   |(r5,r6)=>Pref15_halfL0 f v0 v1 (IntKind.i64.wrap (v2+1)) ([(⟨r5,r6⟩:S83)]))))
   else some (.inl ())
def Pref15_half (F:Nat)(a0_N:Int)(a0_X a0_Z:BitVec 64)(a0_Phase:Int)(a1:List S83):Option (List S83):=
  match Pref13_Act F a0_N a0_X a0_Z a0_Phase a1 with|none=>none|some (r1,r2)=>(match Pref15_halfL1 F a1 r1 0 with
   |none=>none
   |some (.inl _)=>some ([])
   |some (.inr y3)=>some y3)
def Pref15_StateL0 (F:Nat)(v0 v3:Int)(v4 v5:List Pl):Nat→List S83→Int→Option (List S83)
  |0,_,_=>none
  |f+1,v1,v2=>
   if v2<v3 then match Pref15_none F v1 with|none=>none|some r1=>(bif r1 then some (v1)
   else match idx v4 v2 with
   |none=>none
   |some x2=>(match Pref15_half F x2.N x2.X x2.Z x2.Ph v1 with|none=>none|some r3=>Pref15_StateL0 F v0 v3 v4 v5 f r3 (IntKind.i64.wrap (v2+1))))
   else some (v1)
def Pref15_StateL1 (F:Nat)(v1:Int)(v2 v3:List Pl):Nat→Int→Option ((List S83)⊕(Unit))
  |0,_=>none
  |f+1,v0=>
   if v0<(IntKind.i64.wrap (1*2 ^ (min (U (BitVec.ofInt 64 v1)).toNat 64))) then match Pref09_Basis v1 v0 with|none=>none|some (r1,r2)=>(match Pref15_StateL0 F v0 v1 v2 v3 F r1 0 with
   |none=>none
   |some y3=>(match Pref15_none F y3 with|none=>none|some r4=>(bif r4 then Pref15_StateL1 F v1 v2 v3 f (IntKind.i64.wrap (v0+1))
   else some (.inl y3))))
   else some (.inr ())
def Pref15_State (F:Nat)(a0_N:Int)(a0_Stab a0_Destab:List Pl):Option ((List S83)×Int):=
  match Pref14_Right F a0_N a0_Stab a0_Destab with|none=>none|some r1=>(bif r1 then (if a0_N>12 then some ([],150)
   else match Pref15_StateL1 F a0_N a0_Stab a0_Destab F 0 with
   |none=>none
   |some (.inl y2)=>some (y2,0)
   |some (.inr _)=>some ([],150))
   else some ([],140))
def Plaw03_Z (a0_re a0_im:BitVec 64):(BitVec 64)×(BitVec 64):=
  (a0_re,a0_im)
def Plaw03_ZsL0  : Nat→List Cpx→Int→List S83→Option (Unit⊕(List S83))
  |0,_,_,_=>none
  |f+1,v0,v1,v2=>
   if v1<(v0.length:Int) then match idx v0 v1 with
   |none=>none
   |some x1=>(match Plaw03_Z x1.re x1.im with
   |(r2,r3)=>(if (v2.length+1)*16≤140737488355328 then Plaw03_ZsL0 f v0 (IntKind.i64.wrap (v1+1)) (v2++[(⟨r2,r3⟩:S83)])
   else none))
   else some (.inr v2)
def Plaw03_ZsL1  : Nat→List Cpx→Int→Option (Unit⊕(List S83))
  |0,_,_=>none
  |f+1,v0,v1=>
   if v1<(v0.length:Int) then match idx v0 v1 with
   |none=>none
   |some x1=>(match Plaw03_Z x1.re x1.im with
   |(r2,r3)=>Plaw03_ZsL0 f v0 (IntKind.i64.wrap (v1+1)) ([(⟨r2,r3⟩:S83)]))
   else some (.inl ())
def Plaw03_Zs (F:Nat)(a0:List Cpx):Option (List S83):=
  match Plaw03_ZsL1 F a0 0 with
  |none=>none
  |some (.inl _)=>some ([])
  |some (.inr y1)=>some y1
def Pref01_Bits64 (a0:BitVec 64):Option (BitVec 64):=
  bif fCmp .neq a0 a0 then some 9221120237041090561#64
  else bif fNaN a0 then none
   else some a0
def Pref01_Same (a0 a1:BitVec 64):Option Bool:=
  match Pref01_Bits64 a0 with|none=>none|some r1=>(match Pref01_Bits64 a1 with|none=>none|some r2=>some (decide (r1=r2)))
def Pref03_Same (a0_Re a0_Im a1_Re a1_Im:BitVec 64):Option Bool:=
  match Pref01_Same a0_Re a1_Re with|none=>none|some r1=>(bif r1 then (match Pref01_Same a0_Im a1_Im with|none=>none|some r2=>some r2)
   else some false)
def Pref07_RowsL0 (v0 v1:List S83):Nat→Int→Option (Unit⊕(Unit))
  |0,_=>none
  |f+1,v2=>
   if v2<(v0.length:Int) then match idx v0 v2 with
   |none=>none
   |some x1=>(match idx v1 v2 with
   |none=>none
   |some x2=>(match Pref03_Same x1.f_Re x1.f_Im x2.f_Re x2.f_Im with|none=>none|some r3=>(bif r3 then Pref07_RowsL0 v0 v1 f (IntKind.i64.wrap (v2+1))
   else some (.inl ()))))
   else some (.inr ())
def Pref07_Rows (F:Nat)(a0 a1:List S83):Option Bool:=
  if (a0.length:Int)=(a1.length:Int) then match Pref07_RowsL0 a0 a1 F 0 with
   |none=>none
   |some (.inl _)=>some false
   |some (.inr _)=>some true
  else some false
def Pref14_SameRowsL0 (v0 v1:List Pl):Nat→Int→Option (Unit⊕(Unit))
  |0,_=>none
  |f+1,v2=>
   if v2<(v0.length:Int) then match idx v0 v2 with
   |none=>none
   |some x1=>(match idx v1 v2 with
   |none=>none
   |some x2=>(bif (decide (x1.N=x2.N)&&(decide (x1.X=x2.X)&&(decide (x1.Z=x2.Z)&&decide (x1.Ph=x2.Ph)))) then Pref14_SameRowsL0 v0 v1 f (IntKind.i64.wrap (v2+1))
   else some (.inl ())))
   else some (.inr ())
def Pref14_SameRows (F:Nat)(a0 a1:List Pl):Option Bool:=
  if (a0.length:Int)=(a1.length:Int) then match Pref14_SameRowsL0 a0 a1 F 0 with
   |none=>none
   |some (.inl _)=>some false
   |some (.inr _)=>some true
  else some false
def Pref14_Alike (F:Nat)(a0_N:Int)(a0_Stab a0_Destab:List Pl)(a1_N:Int)(a1_Stab a1_Destab:List Pl):Option Bool:=
  if a0_N=a1_N then match Pref14_SameRows F a0_Stab a1_Stab with|none=>none|some r1=>(bif r1 then (match Pref14_SameRows F a0_Destab a1_Destab with|none=>none|some r2=>some r2)
   else some false)
  else some false
def Plaw15_StabStates (F:Nat)(a0_N:Int)(a0_Stab a0_Destab:List Pl):Option Bool:=
  match Pref14_Copy a0_N a0_Stab a0_Destab with|none=>none|some (r1,r2,r3)=>(match Pstab_State F r1 r2 r3 with|none=>none|some (r4,r5)=>(match Pref15_State F a0_N a0_Stab a0_Destab with|none=>none|some (r6,r7)=>(match Plaw03_Zs F r4 with|none=>none|some r8=>(match Pref07_Rows F r8 r6 with|none=>none|some r9=>(bif r9 then (if r5=r7 then match Pref14_Alike F r1 r2 r3 a0_N a0_Stab a0_Destab with|none=>none|some r10=>(bif r10 then some true
   else some false)
   else some false)
   else some false)))))
end Go.Proofs.YtchgkmdonhdfeaaGreatDoor.Ab
