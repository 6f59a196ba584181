/- Functions of the program as plain functions, and that the abstract machine's evaluation comes to them. Written by G.py. No condition. -/
import Derived.Test.YtogkkamlmklpkaaDoorH1
set_option maxRecDepth 100000
set_option maxHeartbeats 4000000
set_option linter.unusedVariables false
set_option linter.unusedSimpArgs false
namespace Go.Proofs.YtogkkamlmklpkaaDoor.Ab
open Go
theorem etableau_Member (D : Nat) (hD : 6 ≤ D) (F : Nat) (a0_N : Int) (a0_Stab : List Pl) (a0_Destab : List Pl) (a1_N : Int) (a1_X : BitVec 64) (a1_Z : BitVec 64) (a1_Phase : Int) (q : Bool) : evW 2 (OV F D) F a25 (some [.agg [.i .i64 (a0_N), .vs (a0_Stab.length) .unk (enc Pl.cells a0_Stab), .vs (a0_Destab.length) .unk (enc Pl.cells a0_Destab)], .agg [.i .i64 (a1_N), .i .u64 (U (a1_X)), .i .u64 (U (a1_Z)), .i .i64 (a1_Phase)]]) q G0 =
    match Ptableau_Member F a0_N a0_Stab a0_Destab a1_N a1_X a1_Z a1_Phase with | none => none | some (r0, r1) => some (.tup [.i .i64 (r0), .i .i64 (r1)], none) := by
  obtain ⟨D, rfl⟩ : ∃ E, D = E + 6 := ⟨D - 6, by omega⟩
  have ctableau_Check0 := etableau_Check (D + 5) (by omega) F
  have cpauli_Hermitian0 := epauli_Hermitian (D + 5) (by omega) F
  have ctableau_sure0 := etableau_sure (D + 5) (by omega) F
  rw [evW_some, G0]
  simp only [Ptableau_Member]
  rcases h1 : (Ptableau_Check F a0_N a0_Stab a0_Destab) with _ | r1
  rotate_left
  by_cases h2 : r1 = (0 : Int)
  replace h2 := eq_true h2
  by_cases h3 : a1_N = a0_N
  replace h3 := eq_true h3
  rcases h4 : ((Ppauli_Hermitian a1_N a1_X a1_Z a1_Phase)) with _ | _
  rotate_left
  rcases h5 : (Ptableau_sure F a0_N a0_Stab a0_Destab a1_N a1_X a1_Z a1_Phase) with _ | ⟨r2, r3, r4, r5⟩
  rotate_left
  by_cases h6 : r3 = a1_X
  replace h6 := eq_true h6
  by_cases h7 : r4 = a1_Z
  replace h7 := eq_true h7
  by_cases h8 : r5 = a1_Phase
  replace h8 := eq_true h8
  rotate_left
  rotate_left
  rotate_left
  rotate_left
  rotate_left
  rotate_left
  all_goals simp -implicitDefEqProofs only [*, a25, vtableau_Check, vpauli_Hermitian, vtableau_sure, EVA.down, ne_eq, seval]

theorem vtableau_Member {D F n : Nat} {args : List AV} {h : AHeap} : OV F (D + 1) 25 args h n (n + 1) = evW 2 (OV F D) F a25 (frzs (frz true 0 (bif AV.nors args then [] else h) 8) args) (AV.nors args) (hglb h 2) := evV_frozen rfl

theorem epauli_Commute (D : Nat) (hD : 3 ≤ D) (F : Nat) (a0_N : Int) (a0_X : BitVec 64) (a0_Z : BitVec 64) (a0_Phase : Int) (a1_N : Int) (a1_X : BitVec 64) (a1_Z : BitVec 64) (a1_Phase : Int) (q : Bool) : evW 2 (OV F D) F a26 (some [.agg [.i .i64 (a0_N), .i .u64 (U (a0_X)), .i .u64 (U (a0_Z)), .i .i64 (a0_Phase)], .agg [.i .i64 (a1_N), .i .u64 (U (a1_X)), .i .u64 (U (a1_Z)), .i .i64 (a1_Phase)]]) q G0 =
    match Ppauli_Commute F a0_N a0_X a0_Z a0_Phase a1_N a1_X a1_Z a1_Phase with | none => none | some (r0, r1) => some (.tup [.b (r0), .i .i64 (r1)], none) := by
  obtain ⟨D, rfl⟩ : ∃ E, D = E + 3 := ⟨D - 3, by omega⟩
  have cpauli_pair0 := epauli_pair (D + 2) (by omega) F
  have cpauli_times0 := epauli_times (D + 2) (by omega) F
  rw [evW_some, G0]
  simp only [Ppauli_Commute]
  rcases h1 : ((Ppauli_pair a0_N a0_X a0_Z a0_Phase a1_N a1_X a1_Z a1_Phase)) with _ | _
  rotate_left
  rcases h2 : (Ppauli_times F a0_N a0_X a0_Z a0_Phase a1_N a1_X a1_Z a1_Phase) with _ | ⟨r1, r2, r3, r4⟩
  rotate_left
  rcases h3 : (Ppauli_times F a1_N a1_X a1_Z a1_Phase a0_N a0_X a0_Z a0_Phase) with _ | ⟨r5, r6, r7, r8⟩
  rotate_left
  rotate_left
  all_goals simp -implicitDefEqProofs only [*, a26, vpauli_pair, vpauli_times, EVA.down, ne_eq, seval]

theorem vpauli_Commute {D F n : Nat} {args : List AV} {h : AHeap} : OV F (D + 1) 26 args h n (n + 1) = evW 2 (OV F D) F a26 (frzs (frz true 0 (bif AV.nors args then [] else h) 8) args) (AV.nors args) (hglb h 2) := evV_frozen rfl

theorem elaw14_TableauMeasures (D : Nat) (hD : 8 ≤ D) (F : Nat) (a0_N : Int) (a0_Stab : List Pl) (a0_Destab : List Pl) (a1 : Int) (a2 : Int) (a3_N : Int) (a3_X : BitVec 64) (a3_Z : BitVec 64) (a3_Phase : Int) (q : Bool) : evW 2 (OV F D) F a6 (some [.agg [.i .i64 (a0_N), .vs (a0_Stab.length) .unk (enc Pl.cells a0_Stab), .vs (a0_Destab.length) .unk (enc Pl.cells a0_Destab)], .i .i64 (a1), .i .i64 (a2), .agg [.i .i64 (a3_N), .i .u64 (U (a3_X)), .i .u64 (U (a3_Z)), .i .i64 (a3_Phase)]]) q G0 =
    match Plaw14_TableauMeasures F a0_N a0_Stab a0_Destab a1 a2 a3_N a3_X a3_Z a3_Phase with | none => none | some r0 => some (.b (r0), none) := by
  obtain ⟨D, rfl⟩ : ∃ E, D = E + 8 := ⟨D - 8, by omega⟩
  have claw14_num0 := elaw14_num (D + 7) (by omega) F
  have ctableau_Check0 := etableau_Check (D + 7) (by omega) F
  have cref14_Alike0 := eref14_Alike (D + 7) (by omega) F
  have ctableau_Odds0 := etableau_Odds (D + 7) (by omega) F
  have ctableau_Project0 := etableau_Project (D + 7) (by omega) F
  have ctableau_Member0 := etableau_Member (D + 7) (by omega) F
  have cpauli_Commute0 := epauli_Commute (D + 7) (by omega) F
  rw [evW_some, G0]
  simp only [Plaw14_TableauMeasures]
  rcases h1 : (Ptableau_Odds F a0_N a0_Stab a0_Destab a1) with _ | ⟨r1, r2⟩
  rotate_left
  rcases h2 : (Ptableau_Project F a0_N a0_Stab a0_Destab a1 a2) with _ | ⟨r3, r4, r5, r6⟩
  rotate_left
  by_cases h3 : (Plaw14_num r2) = (0 : Int)
  replace h3 := eq_true h3
  by_cases h4 : a2 < (0 : Int)
  by_cases h5 : (Plaw14_num r6) = (0 : Int)
  replace h5 := eq_true h5
  rotate_left
  rotate_left
  by_cases h6 : a2 > (1 : Int)
  by_cases h7 : (Plaw14_num r6) = (0 : Int)
  replace h7 := eq_true h7
  rotate_left
  rotate_left
  by_cases h8 : r1 = (IntKind.i64.wrap ((1 : Int) - a2))
  replace h8 := eq_true h8
  by_cases h9 : (Plaw14_num r6) = (142 : Int)
  replace h9 := eq_true h9
  by_cases h10 : r3 = (0 : Int)
  replace h10 := eq_true h10
  rotate_left
  rotate_left
  rotate_left
  rcases h11 : (Ptableau_Odds F r3 r4 r5 a1) with _ | ⟨r7, r8⟩
  rotate_left
  rcases h12 : (Ptableau_Project F r3 r4 r5 a1 a2) with _ | ⟨r9, r10, r11, r12⟩
  rotate_left
  rcases h13 : (Ptableau_Project F r3 r4 r5 a1 (IntKind.i64.wrap ((1 : Int) - a2))) with _ | ⟨r13, r14, r15, r16⟩
  rotate_left
  by_cases h14 : (Plaw14_num r6) = (0 : Int)
  replace h14 := eq_true h14
  by_cases h15 : (Plaw14_num r8) = (0 : Int)
  replace h15 := eq_true h15
  by_cases h16 : r7 = a2
  replace h16 := eq_true h16
  by_cases h17 : (Plaw14_num r12) = (0 : Int)
  replace h17 := eq_true h17
  rcases h18 : (Pref14_Alike F r9 r10 r11 r3 r4 r5) with _ | r17
  rotate_left
  rcases h19 : (r17) with _ | _
  rotate_left
  by_cases h20 : (Plaw14_num r16) = (142 : Int)
  replace h20 := eq_true h20
  rcases h21 : (Ptableau_Check F r3 r4 r5) with _ | r18
  rotate_left
  by_cases h22 : (Plaw14_num r18) = (0 : Int)
  replace h22 := eq_true h22
  rcases h23 : (Ptableau_Member F a0_N a0_Stab a0_Destab a3_N a3_X a3_Z a3_Phase) with _ | ⟨r19, r20⟩
  rotate_left
  rcases h24 : (Ptableau_Member F r3 r4 r5 a3_N a3_X a3_Z a3_Phase) with _ | ⟨r21, r22⟩
  rotate_left
  rcases h25 : (Ppauli_Commute F a3_N a3_X a3_Z a3_Phase a0_N 0#64 (1#64 <<< ((BitVec.ofInt 64 a1)).toNat) (0 : Int)) with _ | ⟨r23, r24⟩
  rotate_left
  by_cases h26 : (Plaw14_num r20) = (0 : Int)
  replace h26 := eq_true h26
  by_cases h27 : (Plaw14_num r22) = (0 : Int)
  replace h27 := eq_true h27
  by_cases h28 : (Plaw14_num r24) = (0 : Int)
  replace h28 := eq_true h28
  by_cases h29 : r19 = (0 : Int)
  replace h29 := eq_true h29
  rotate_left
  rcases h30 : (r23) with _ | _
  rotate_left
  by_cases h31 : r19 = r21
  replace h31 := eq_true h31
  rotate_left
  rotate_left
  rotate_left
  rotate_left
  by_cases h32 : r20 = r22
  replace h32 := eq_true h32
  rotate_left
  rotate_left
  rotate_left
  rotate_left
  rotate_left
  rotate_left
  rotate_left
  rotate_left
  by_cases h33 : (Plaw14_num r6) = (0 : Int)
  replace h33 := eq_true h33
  rotate_left
  rotate_left
  all_goals simp -implicitDefEqProofs (maxSteps := 4000000) only [*, a6, vlaw14_num, vtableau_Check, vref14_Alike, vtableau_Odds, vtableau_Project, vtableau_Member, vpauli_Commute, k16, EVA.down, ne_eq, seval]

theorem vlaw14_TableauMeasures {D F n : Nat} {args : List AV} {h : AHeap} : OV F (D + 1) 6 args h n (n + 1) = evW 2 (OV F D) F a6 (frzs (frz true 0 (bif AV.nors args then [] else h) 8) args) (AV.nors args) (hglb h 2) := evV_frozen rfl
end Go.Proofs.YtogkkamlmklpkaaDoor.Ab
