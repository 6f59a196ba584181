/- Functions of the program as plain functions, and that the abstract machine's evaluation comes to them. Written by G.py. No condition. -/
import Derived.Test.YtlgmimclpmolmaaDoorH1
set_option maxRecDepth 100000
set_option maxHeartbeats 4000000
set_option linter.unusedVariables false
set_option linter.unusedSimpArgs false
namespace Go.Proofs.YtlgmimclpmolmaaDoor.Ab
open Go
theorem elaw22_ExpectRebuilds (D:Nat)(hD:7≤D)(F:Nat)(a0:List (BitVec 64))(q:Bool):evW 3 (OV F D) F a3 (some [.vs a0.length .unk (enc c34 a0)]) q G0 =
 match Plaw22_ExpectRebuilds F a0 with|none=>none|some r0=>some (.b r0,none):=by
 obtain ⟨D,rfl⟩:=dex hD
 have cexpect_Rebuild0:=eexpect_Rebuild (D+6) (by omega) F
 have cref22_Rebuild0:=eref22_Rebuild (D+6) (by omega) F
 have cexpect_Purity0:=eexpect_Purity (D+6) (by omega) F
 have cref22_Purity0:=eref22_Purity (D+6) (by omega) F
 have claw22_num0:=elaw22_num (D+6) (by omega) F
 have claw10_Same0:=elaw10_Same (D+6) (by omega) F
 have cref02_Same0:=eref02_Same (D+6) (by omega) F
 have claw22_floats0:=elaw22_floats (D+6) (by omega) F
 have cexpect_Rebuild0_0:=eexpect_Rebuild (D+6) (by omega) F []
 simp only [List.length_nil,enc_nil] at cexpect_Rebuild0_0
 have cexpect_Purity0_0:=eexpect_Purity (D+6) (by omega) F []
 simp only [List.length_nil,enc_nil] at cexpect_Purity0_0
 have claw22_floats0_0:=fun a1=>elaw22_floats (D+6) (by omega) F [] a1
 simp only [List.length_nil,enc_nil] at claw22_floats0_0
 rw [evW_some,G0]
 simp only [Plaw22_ExpectRebuilds]
 by_cases h1:a0=[]
 replace h1:=eq_true h1
 rcases h2:(Pexpect_Rebuild F ([])) with _|⟨r1,r2,r3⟩
 rotate_left
 rcases h3:(Pref22_Rebuild F a0) with _|⟨r4,r5,r6⟩
 rotate_left
 rcases h4:(Pexpect_Purity F ([])) with _|⟨r7,r8⟩
 rotate_left
 rcases h5:(Pref22_Purity F a0) with _|⟨r9,r10⟩
 rotate_left
 by_cases h6:(Plaw22_num r3)=r6
 replace h6:=eq_true h6
 by_cases h7:r1=r4
 replace h7:=eq_true h7
 rcases h8:(Plaw10_Same F r2 r5) with _|r11
 rotate_left
 rcases h9:(r11) with _|_
 rotate_left
 rcases h10:((Pref02_Same r7 r9)) with _|_
 rotate_left
 by_cases h11:(Plaw22_num r8)=r10
 replace h11:=eq_true h11
 rcases h12:(Plaw22_floats F ([]) a0) with _|r12
 rotate_left
 rcases h13:(r12) with _|_
 rotate_left
 rotate_left
 rotate_left
 rotate_left
 rotate_left
 by_cases h14:a0.length*8≤140737488355328
 rcases h15:(Pexpect_Rebuild F a0) with _|⟨r13,r14,r15⟩
 rotate_left
 rcases h16:(Pref22_Rebuild F a0) with _|⟨r16,r17,r18⟩
 rotate_left
 rcases h17:(Pexpect_Purity F a0) with _|⟨r19,r20⟩
 rotate_left
 rcases h18:(Pref22_Purity F a0) with _|⟨r21,r22⟩
 rotate_left
 by_cases h19:(Plaw22_num r15)=r18
 replace h19:=eq_true h19
 by_cases h20:r13=r16
 replace h20:=eq_true h20
 rcases h21:(Plaw10_Same F r14 r17) with _|r23
 rotate_left
 rcases h22:(r23) with _|_
 rotate_left
 rcases h23:((Pref02_Same r19 r21)) with _|_
 rotate_left
 by_cases h24:(Plaw22_num r20)=r22
 replace h24:=eq_true h24
 rcases h25:(Plaw22_floats F a0 a0) with _|r24
 rotate_left
 rcases h26:(r24) with _|_
 all_goals simp -implicitDefEqProofs (maxSteps:=4000000) only [*,a3,vexpect_Rebuild,vref22_Rebuild,vexpect_Purity,vref22_Purity,vlaw22_num,vlaw10_Same,vref02_Same,vlaw22_floats,k12,EVA.down,ne_eq,seval]
theorem vlaw22_ExpectRebuilds {D F n:Nat}{args:List AV}{h:AHeap}:OV F (D+1) 3 args h n (n+1)=evW 3 (OV F D) F a3 (frzs (frz true 0 (bif AV.nors args then [] else h) 8) args) (AV.nors args) (hglb h 3):=evV_frozen rfl
end Go.Proofs.YtlgmimclpmolmaaDoor.Ab
