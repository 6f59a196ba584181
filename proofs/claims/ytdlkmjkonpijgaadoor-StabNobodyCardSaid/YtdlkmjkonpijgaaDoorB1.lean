/- The functions, for the abstract machine. Written by gen.py. No condition. -/
import Derived.Test.YtdlkmjkonpijgaaDoorA15
import Derived.Test.YtdlkmjkonpijgaaDoorProg
set_option linter.unusedVariables false
set_option maxRecDepth 100000
namespace Go.Proofs.YtdlkmjkonpijgaaDoor.Ab
open Go

/-- phasor/phasorlaw15.StabNobody -/
def a3 : AFn := ⟨1, 16, [.t 2],
    .seq (.reg false [
      ⟨(some 2), none, .mv (.k (.b false)), 0⟩])
    (.seq (.reg false [
      ⟨(some 3), none, .mv (.k (.p none)), 0⟩])
    (.seq (.reg false [
      ⟨(some 4), none, .mv (.t 3), 0⟩,
      ⟨(some 5), none, .mv (.t 0), 0⟩,
      ⟨(some 6), none, .call 0 (.k (.fn (.func 4) [] [])) [.t 4, .t 5], 0⟩,
      ⟨(some 7), none, .mv (.t 6), 0⟩,
      ⟨(some 8), (some (7, true)), .build [.b false, .i .i64 (0), .i .i64 (0), .sl none 0 (.ex 0), .i .i64 (0), .sl none 0 (.ex 0), .sl none 0 (.ex 0), .sl none 0 (.ex 0), .i .i64 (0), .sl none 0 (.ex 0)] [], 0⟩,
      ⟨(some 9), (some (7, true)), .box false 36 (.t 8), 0⟩,
      ⟨(some 10), (some (7, true)), .mv (.t 0), 0⟩,
      ⟨(some 11), (some (7, true)), .call 0 (.k (.fn (.func 4) [] [])) [.t 9, .t 10], 0⟩,
      ⟨(some 12), none, .pick (.t 7) (.t 11) (.k (.b false)), 0⟩,
      ⟨(some 13), none, .mv (.t 12), 0⟩,
      ⟨(some 14), (some (13, true)), .call 0 (.k (.fn (.func 5) [] [])) [], 0⟩,
      ⟨(some 15), none, .pick (.t 13) (.t 14) (.k (.b false)), 0⟩,
      ⟨(some 2), none, .mv (.t 15), 0⟩])
    (.cut [2] [] .ret)))⟩

theorem ok3 : okFn Tryd.prog 3 Tryd.f3 a3 = true := by kernel_rfl

/-- phasor/phasorlaw15.nobody -/
def a4 : AFn := ⟨2, 88, [.t 4],
    .seq (.reg false [
      ⟨(some 4), none, .mv (.k (.b false)), 0⟩])
    (.seq (.reg false [
      ⟨(some 13), none, .mv (.t 0), 0⟩,
      ⟨(some 14), none, .call 1 (.k (.fn (.func 6) [] [])) [.t 13], 0⟩,
      ⟨(some 12), none, .mv (.t 14), 0⟩,
      ⟨(some 15), none, .ext (.t 12) 0, 0⟩,
      ⟨(some 16), none, .ext (.t 12) 1, 0⟩,
      ⟨(some 5), none, .alloc true 42 [.i .i64 (0), .i .i64 (0), .sl none 0 (.ex 0), .i .i64 (0), .i .i64 (0), .i .i64 (0)], 0⟩,
      ⟨none, none, .store 6 (.t 5) (.t 15), 0⟩,
      ⟨(some 6), none, .mv (.t 16), 0⟩])
    (.seq (.reg false [
      ⟨(some 18), none, .mv (.t 0), 0⟩,
      ⟨(some 19), none, .mv (.t 1), 0⟩,
      ⟨(some 20), none, .call 2 (.k (.fn (.func 7) [] [])) [.t 18, .t 19], 0⟩,
      ⟨(some 17), none, .mv (.t 20), 0⟩,
      ⟨(some 21), none, .ext (.t 17) 0, 0⟩,
      ⟨(some 22), none, .ext (.t 17) 1, 0⟩,
      ⟨(some 7), none, .mv (.t 21), 0⟩,
      ⟨(some 8), none, .mv (.t 22), 0⟩])
    (.seq (.reg false [
      ⟨(some 24), none, .mv (.t 0), 0⟩,
      ⟨(some 25), none, .mv (.t 1), 0⟩,
      ⟨(some 26), none, .bslice 22 1 1 [.f .f64 0] [(0, 1, .t 25)], 0⟩,
      ⟨(some 27), none, .call 2 (.k (.fn (.func 8) [] [])) [.t 24, .t 26], 0⟩,
      ⟨(some 23), none, .mv (.t 27), 0⟩,
      ⟨(some 28), none, .ext (.t 23) 0, 0⟩,
      ⟨(some 29), none, .ext (.t 23) 1, 0⟩,
      ⟨(some 9), none, .mv (.t 28), 0⟩,
      ⟨(some 10), none, .mv (.t 29), 0⟩])
    (.seq (.reg false [
      ⟨(some 30), none, .mv (.t 0), 0⟩,
      ⟨(some 31), none, .call 1 (.k (.fn (.func 9) [] [])) [.t 30], 0⟩,
      ⟨(some 11), none, .alloc true 30 [.i .i64 (0), .sl none 0 (.ex 0), .sl none 0 (.ex 0)], 0⟩,
      ⟨none, none, .store 3 (.t 11) (.t 31), 0⟩])
    (.seq (.reg false [
      ⟨(some 32), none, .mv (.t 6), 0⟩,
      ⟨(some 33), none, .un .not (.t 32), 0⟩,
      ⟨(some 34), none, .mv (.t 33), 0⟩,
      ⟨(some 35), (some (34, true)), .mv (.t 7), 0⟩,
      ⟨(some 36), (some (34, true)), .un .not (.t 35), 0⟩,
      ⟨(some 37), none, .pick (.t 34) (.t 36) (.k (.b false)), 0⟩,
      ⟨(some 38), none, .mv (.t 37), 0⟩,
      ⟨(some 39), (some (38, true)), .mv (.t 8), 0⟩,
      ⟨(some 40), (some (38, true)), .bin .eql (.t 39) (.k (.i .i64 (1))), 0⟩,
      ⟨(some 41), none, .pick (.t 38) (.t 40) (.k (.b false)), 0⟩,
      ⟨(some 42), none, .mv (.t 41), 0⟩,
      ⟨(some 43), (some (42, true)), .mv (.t 9), 0⟩,
      ⟨(some 44), (some (42, true)), .bin .eql (.t 43) (.k (.i .i64 (0))), 0⟩,
      ⟨(some 45), none, .pick (.t 42) (.t 44) (.k (.b false)), 0⟩,
      ⟨(some 46), none, .mv (.t 45), 0⟩,
      ⟨(some 47), (some (46, true)), .mv (.t 10), 0⟩,
      ⟨(some 48), (some (46, true)), .bin .eql (.t 47) (.k (.i .i64 (1))), 0⟩,
      ⟨(some 49), none, .pick (.t 46) (.t 48) (.k (.b false)), 0⟩,
      ⟨(some 50), none, .mv (.t 49), 0⟩,
      ⟨(some 51), (some (50, true)), .fadr 0 (.t 11), 0⟩,
      ⟨(some 52), (some (50, true)), .load none (.t 51), 0⟩,
      ⟨(some 53), (some (50, true)), .bin .eql (.t 52) (.k (.i .i64 (0))), 0⟩,
      ⟨(some 54), none, .pick (.t 50) (.t 53) (.k (.b false)), 0⟩,
      ⟨(some 55), none, .mv (.t 54), 0⟩,
      ⟨(some 56), (some (55, true)), .fadr 1 (.t 11), 0⟩,
      ⟨(some 57), (some (55, true)), .load none (.t 56), 0⟩,
      ⟨(some 58), (some (55, true)), .len false (.t 57), 0⟩,
      ⟨(some 59), (some (55, true)), .bin .eql (.t 58) (.k (.i .i64 (0))), 0⟩,
      ⟨(some 60), none, .pick (.t 55) (.t 59) (.k (.b false)), 0⟩,
      ⟨(some 61), none, .mv (.t 60), 0⟩,
      ⟨(some 62), (some (61, true)), .mv (.t 0), 0⟩,
      ⟨(some 63), (some (61, true)), .call 1 (.k (.fn (.func 10) [] [])) [.t 62], 0⟩,
      ⟨(some 64), (some (61, true)), .len false (.t 63), 0⟩,
      ⟨(some 65), (some (61, true)), .bin .eql (.t 64) (.k (.i .i64 (0))), 0⟩,
      ⟨(some 66), none, .pick (.t 61) (.t 65) (.k (.b false)), 0⟩,
      ⟨(some 67), none, .mv (.t 66), 0⟩,
      ⟨(some 68), (some (67, true)), .mv (.t 0), 0⟩,
      ⟨(some 69), (some (67, true)), .call 0 (.k (.fn (.func 11) [] [])) [.t 68], 0⟩,
      ⟨(some 70), (some (67, true)), .bin .eql (.t 69) (.k (.i .i64 (0))), 0⟩,
      ⟨(some 71), none, .pick (.t 67) (.t 70) (.k (.b false)), 0⟩,
      ⟨(some 72), none, .mv (.t 71), 0⟩,
      ⟨(some 73), (some (72, true)), .mv (.t 0), 0⟩,
      ⟨(some 74), (some (72, true)), .call 1 (.k (.fn (.func 12) [] [])) [.t 73], 0⟩,
      ⟨(some 75), (some (72, true)), .len false (.t 74), 0⟩,
      ⟨(some 76), (some (72, true)), .bin .eql (.t 75) (.k (.i .i64 (0))), 0⟩,
      ⟨(some 77), none, .pick (.t 72) (.t 76) (.k (.b false)), 0⟩,
      ⟨(some 78), none, .mv (.t 77), 0⟩,
      ⟨(some 79), (some (78, true)), .mv (.t 0), 0⟩,
      ⟨(some 80), (some (78, true)), .call 0 (.k (.fn (.func 13) [] [])) [.t 79], 0⟩,
      ⟨(some 81), (some (78, true)), .bin .eql (.t 80) (.k (.i .i64 (0))), 0⟩,
      ⟨(some 82), none, .pick (.t 78) (.t 81) (.k (.b false)), 0⟩,
      ⟨(some 83), none, .mv (.t 82), 0⟩,
      ⟨(some 84), (some (83, true)), .mv (.t 0), 0⟩,
      ⟨(some 85), (some (83, true)), .call 1 (.k (.fn (.func 14) [] [])) [.t 84], 0⟩,
      ⟨(some 86), (some (83, true)), .pop (.pnil false) [.t 85], 0⟩,
      ⟨(some 87), none, .pick (.t 83) (.t 86) (.k (.b false)), 0⟩,
      ⟨(some 4), none, .mv (.t 87), 0⟩])
    (.cut [4] [] .ret))))))⟩

theorem ok4 : okFn Tryd.prog 3 Tryd.f4 a4 = true := by kernel_rfl

/-- phasor/phasorlaw15.heads -/
def a5 : AFn := ⟨0, 128, [.t 0],
    .seq (.reg false [
      ⟨(some 0), none, .mv (.k (.b false)), 0⟩])
    (.seq (.reg false [
      ⟨(some 13), none, .call 1 (.k (.fn (.func 16) [] [])) [], 0⟩,
      ⟨(some 14), none, .call 1 (.k (.fn (.func 15) [] [])) [.t 13], 0⟩,
      ⟨(some 12), none, .mv (.t 14), 0⟩,
      ⟨(some 15), none, .ext (.t 12) 0, 0⟩,
      ⟨(some 16), none, .ext (.t 12) 1, 0⟩,
      ⟨(some 1), none, .mv (.t 15), 0⟩,
      ⟨(some 2), none, .mv (.t 16), 0⟩])
    (.seq (.seq (.reg false [
      ⟨(some 17), none, .mv (.t 1), 0⟩,
      ⟨(some 18), none, .pop (.pnil false) [.t 17], 0⟩,
      ⟨(some 19), none, .mv (.t 18), 0⟩,
      ⟨(some 20), (some (19, false)), .mv (.t 2), 0⟩,
      ⟨(some 21), (some (19, false)), .bin .neq (.t 20) (.k (.i .i64 (0))), 0⟩,
      ⟨(some 22), none, .pick (.t 19) (.k (.b true)) (.t 21), 0⟩])
    (.ite (.t 22) (.seq (.reg false [
      ⟨(some 0), none, .mv (.k (.b false)), 0⟩])
    (.cut [0] [] .ret)) (.skip)))
    (.cut [1] [] (.seq (.reg false [
      ⟨(some 24), none, .mv (.t 1), 0⟩,
      ⟨(some 25), none, .bslice 22 1 2 [.f .f64 0, .f .f64 0] [(0, 1, .k (.f .f64 4599075939470750515)), (1, 1, .k (.f .f64 4606281698874543309))], 0⟩,
      ⟨(some 26), none, .call 2 (.k (.fn (.func 8) [] [])) [.t 24, .t 25], 0⟩,
      ⟨(some 23), none, .mv (.t 26), 0⟩,
      ⟨(some 27), none, .ext (.t 23) 0, 0⟩,
      ⟨(some 28), none, .ext (.t 23) 1, 0⟩,
      ⟨(some 3), none, .mv (.t 27), 0⟩,
      ⟨(some 4), none, .mv (.t 28), 0⟩])
    (.seq (.reg false [
      ⟨(some 29), none, .mv (.t 1), 0⟩,
      ⟨(some 30), none, .call 1 (.k (.fn (.func 10) [] [])) [.t 29], 0⟩,
      ⟨(some 5), none, .mv (.t 30), 0⟩])
    (.seq (.reg false [
      ⟨(some 31), none, .mv (.t 1), 0⟩,
      ⟨(some 32), none, .call 1 (.k (.fn (.func 12) [] [])) [.t 31], 0⟩,
      ⟨(some 6), none, .mv (.t 32), 0⟩])
    (.seq (.reg false [
      ⟨(some 33), none, .mv (.t 1), 0⟩,
      ⟨(some 34), none, .call 1 (.k (.fn (.func 9) [] [])) [.t 33], 0⟩,
      ⟨(some 7), none, .alloc true 30 [.i .i64 (0), .sl none 0 (.ex 0), .sl none 0 (.ex 0)], 0⟩,
      ⟨none, none, .store 3 (.t 7) (.t 34), 0⟩])
    (.seq (.reg false [
      ⟨(some 36), none, .load (some 3) (.t 7), 0⟩,
      ⟨(some 37), none, .call 1 (.k (.fn (.func 17) [] [])) [.t 36], 0⟩,
      ⟨(some 35), none, .mv (.t 37), 0⟩,
      ⟨(some 38), none, .ext (.t 35) 0, 0⟩,
      ⟨(some 39), none, .ext (.t 35) 1, 0⟩,
      ⟨(some 8), none, .mv (.t 38), 0⟩,
      ⟨(some 9), none, .mv (.t 39), 0⟩])
    (.seq (.reg false [
      ⟨(some 41), none, .bslice 3 1 3 [.i .i64 (0), .i .i64 (0), .i .i64 (0)] [(0, 1, .k (.i .i64 (0))), (1, 1, .k (.i .i64 (1))), (2, 1, .k (.i .i64 (2)))], 0⟩,
      ⟨(some 42), none, .call 1 (.k (.fn (.func 18) [] [])) [.k (.i .i64 (18)), .t 41], 0⟩,
      ⟨(some 43), none, .bslice 42 6 1 [.i .i64 (0), .i .i64 (0), .sl none 0 (.ex 0), .i .i64 (0), .i .i64 (0), .i .i64 (0)] [(0, 6, .t 42)], 0⟩,
      ⟨(some 44), none, .build [.i .i64 (0), .i .i64 (0), .sl none 0 (.ex 0)] [(0, 1, .k (.i .i64 (3))), (2, 1, .t 43)], 0⟩,
      ⟨(some 45), none, .call 1 (.k (.fn (.func 15) [] [])) [.t 44], 0⟩,
      ⟨(some 40), none, .mv (.t 45), 0⟩,
      ⟨(some 46), none, .ext (.t 40) 0, 0⟩,
      ⟨(some 47), none, .ext (.t 40) 1, 0⟩,
      ⟨(some 10), none, .mv (.t 46), 0⟩,
      ⟨(some 11), none, .mv (.t 47), 0⟩])
    (.seq (.reg false [
      ⟨(some 48), none, .mv (.t 3), 0⟩,
      ⟨(some 49), none, .bin .eql (.t 48) (.k (.i .i64 (2))), 0⟩,
      ⟨(some 50), none, .mv (.t 49), 0⟩,
      ⟨(some 51), (some (50, true)), .mv (.t 4), 0⟩,
      ⟨(some 52), (some (50, true)), .bin .eql (.t 51) (.k (.i .i64 (0))), 0⟩,
      ⟨(some 53), none, .pick (.t 50) (.t 52) (.k (.b false)), 0⟩,
      ⟨(some 54), none, .mv (.t 53), 0⟩,
      ⟨(some 55), (some (54, true)), .mv (.t 5), 0⟩,
      ⟨(some 56), (some (54, true)), .len false (.t 55), 0⟩,
      ⟨(some 57), (some (54, true)), .bin .eql (.t 56) (.k (.i .i64 (2))), 0⟩,
      ⟨(some 58), none, .pick (.t 54) (.t 57) (.k (.b false)), 0⟩,
      ⟨(some 59), none, .mv (.t 58), 0⟩,
      ⟨(some 60), (some (59, true)), .mv (.t 5), 0⟩,
      ⟨(some 61), (some (59, true)), .iadr 1 (.t 60) (.k (.i .i64 (0))), 0⟩,
      ⟨(some 62), (some (59, true)), .load none (.t 61), 0⟩,
      ⟨(some 63), (some (59, true)), .bin .eql (.t 62) (.k (.i .i64 (1))), 0⟩,
      ⟨(some 64), none, .pick (.t 59) (.t 63) (.k (.b false)), 0⟩,
      ⟨(some 65), none, .mv (.t 64), 0⟩,
      ⟨(some 66), (some (65, true)), .mv (.t 5), 0⟩,
      ⟨(some 67), (some (65, true)), .iadr 1 (.t 66) (.k (.i .i64 (1))), 0⟩,
      ⟨(some 68), (some (65, true)), .load none (.t 67), 0⟩,
      ⟨(some 69), (some (65, true)), .bin .eql (.t 68) (.k (.i .i64 (1))), 0⟩,
      ⟨(some 70), none, .pick (.t 65) (.t 69) (.k (.b false)), 0⟩,
      ⟨(some 71), none, .mv (.t 70), 0⟩,
      ⟨(some 72), (some (71, true)), .mv (.t 6), 0⟩,
      ⟨(some 73), (some (71, true)), .len false (.t 72), 0⟩,
      ⟨(some 74), (some (71, true)), .bin .eql (.t 73) (.k (.i .i64 (2))), 0⟩,
      ⟨(some 75), none, .pick (.t 71) (.t 74) (.k (.b false)), 0⟩,
      ⟨(some 76), none, .mv (.t 75), 0⟩,
      ⟨(some 77), (some (76, true)), .mv (.t 6), 0⟩,
      ⟨(some 78), (some (76, true)), .iadr 6 (.t 77) (.k (.i .i64 (0))), 0⟩,
      ⟨(some 79), (some (76, true)), .fadr 5 (.t 78), 0⟩,
      ⟨(some 80), (some (76, true)), .load none (.t 79), 0⟩,
      ⟨(some 81), (some (76, true)), .pop (.fcmp .eql) [.t 80, .k (.f .f64 4602678819172646912)], 0⟩,
      ⟨(some 82), none, .pick (.t 76) (.t 81) (.k (.b false)), 0⟩,
      ⟨(some 83), none, .mv (.t 82), 0⟩,
      ⟨(some 84), (some (83, true)), .mv (.t 6), 0⟩,
      ⟨(some 85), (some (83, true)), .iadr 6 (.t 84) (.k (.i .i64 (1))), 0⟩,
      ⟨(some 86), (some (83, true)), .fadr 4 (.t 85), 0⟩,
      ⟨(some 87), (some (83, true)), .load none (.t 86), 0⟩,
      ⟨(some 88), (some (83, true)), .pop (.fcmp .eql) [.t 87, .k (.f .f64 0)], 0⟩,
      ⟨(some 89), none, .pick (.t 83) (.t 88) (.k (.b false)), 0⟩,
      ⟨(some 90), none, .mv (.t 89), 0⟩,
      ⟨(some 91), (some (90, true)), .mv (.t 1), 0⟩,
      ⟨(some 92), (some (90, true)), .call 0 (.k (.fn (.func 13) [] [])) [.t 91], 0⟩,
      ⟨(some 93), (some (90, true)), .bin .eql (.t 92) (.k (.i .i64 (1))), 0⟩,
      ⟨(some 94), none, .pick (.t 90) (.t 93) (.k (.b false)), 0⟩,
      ⟨(some 95), none, .mv (.t 94), 0⟩,
      ⟨(some 96), (some (95, true)), .fadr 1 (.t 7), 0⟩,
      ⟨(some 97), (some (95, true)), .load none (.t 96), 0⟩,
      ⟨(some 98), (some (95, true)), .len false (.t 97), 0⟩,
      ⟨(some 99), (some (95, true)), .bin .eql (.t 98) (.k (.i .i64 (2))), 0⟩,
      ⟨(some 100), none, .pick (.t 95) (.t 99) (.k (.b false)), 0⟩,
      ⟨(some 101), none, .mv (.t 100), 0⟩,
      ⟨(some 102), (some (101, true)), .fadr 1 (.t 7), 0⟩,
      ⟨(some 103), (some (101, true)), .load none (.t 102), 0⟩,
      ⟨(some 104), (some (101, true)), .iadr 4 (.t 103) (.k (.i .i64 (0))), 0⟩,
      ⟨(some 105), (some (101, true)), .fadr 3 (.t 104), 0⟩,
      ⟨(some 106), (some (101, true)), .load none (.t 105), 0⟩,
      ⟨(some 107), (some (101, true)), .bin .eql (.t 106) (.k (.i .i64 (2))), 0⟩,
      ⟨(some 108), none, .pick (.t 101) (.t 107) (.k (.b false)), 0⟩,
      ⟨(some 109), none, .mv (.t 108), 0⟩,
      ⟨(some 110), (some (109, true)), .mv (.t 9), 0⟩,
      ⟨(some 111), (some (109, true)), .bin .eql (.t 110) (.k (.i .i64 (0))), 0⟩,
      ⟨(some 112), none, .pick (.t 109) (.t 111) (.k (.b false)), 0⟩,
      ⟨(some 113), none, .mv (.t 112), 0⟩,
      ⟨(some 114), (some (113, true)), .mv (.t 8), 0⟩,
      ⟨(some 115), (some (113, true)), .len false (.t 114), 0⟩,
      ⟨(some 116), (some (113, true)), .bin .eql (.t 115) (.k (.i .i64 (4))), 0⟩,
      ⟨(some 117), none, .pick (.t 113) (.t 116) (.k (.b false)), 0⟩,
      ⟨(some 118), none, .mv (.t 117), 0⟩,
      ⟨(some 119), (some (118, true)), .mv (.t 8), 0⟩,
      ⟨(some 120), (some (118, true)), .iadr 1 (.t 119) (.k (.i .i64 (3))), 0⟩,
      ⟨(some 121), (some (118, true)), .load none (.t 120), 0⟩,
      ⟨(some 122), (some (118, true)), .pop (.ceq true) [.t 121, .k (.c .f64 0 0)], 0⟩,
      ⟨(some 123), none, .pick (.t 118) (.t 122) (.k (.b false)), 0⟩,
      ⟨(some 124), none, .mv (.t 123), 0⟩,
      ⟨(some 125), (some (124, true)), .mv (.t 11), 0⟩,
      ⟨(some 126), (some (124, true)), .bin .eql (.t 125) (.k (.i .i64 (150))), 0⟩,
      ⟨(some 127), none, .pick (.t 124) (.t 126) (.k (.b false)), 0⟩,
      ⟨(some 0), none, .mv (.t 127), 0⟩])
    (.cut [0] [] .ret)))))))))))⟩

theorem ok5 : okFn Tryd.prog 3 Tryd.f5 a5 = true := by kernel_rfl

/-- (*phasor/stab.Machine).Next -/
def a6 : AFn := ⟨1, 40, [.cell 2 (some 6), .t 3],
    .seq (.reg false [
      ⟨(some 2), none, .alloc true 42 [.i .i64 (0), .i .i64 (0), .sl none 0 (.ex 0), .i .i64 (0), .i .i64 (0), .i .i64 (0)], 0⟩,
      ⟨(some 3), none, .mv (.k (.b false)), 0⟩])
    (.seq (.seq (.reg true [
      ⟨(some 5), none, .mv (.t 0), 0⟩,
      ⟨(some 6), none, .call 0 (.k (.fn (.func 19) [] [])) [.t 5], 1⟩,
      ⟨(some 7), none, .un .not (.t 6), 3⟩,
      ⟨(some 8), none, .mv (.t 7), 7⟩,
      ⟨(some 9), (some (8, false)), .mv (.t 0), 15⟩,
      ⟨(some 10), (some (8, false)), .nchk (.t 9), 31⟩,
      ⟨(some 11), (some (8, false)), .fadr 4 (.t 10), 63⟩,
      ⟨(some 12), (some (8, false)), .fadr 4 (.t 11), 127⟩,
      ⟨(some 13), (some (8, false)), .load none (.t 12), 255⟩,
      ⟨(some 14), (some (8, false)), .mv (.t 0), 15⟩,
      ⟨(some 15), (some (8, false)), .nchk (.t 14), 527⟩,
      ⟨(some 16), (some (8, false)), .fadr 1 (.t 15), 1551⟩,
      ⟨(some 17), (some (8, false)), .fadr 2 (.t 16), 3599⟩,
      ⟨(some 18), (some (8, false)), .load none (.t 17), 7695⟩,
      ⟨(some 19), (some (8, false)), .len false (.t 18), 15887⟩,
      ⟨(some 20), (some (8, false)), .bin .geq (.t 13) (.t 19), 32767⟩,
      ⟨(some 21), none, .pick (.t 8) (.k (.b true)) (.t 20), 65535⟩])
    (.ite (.t 21) (.seq (.reg false [
      ⟨(some 22), none, .build [.i .i64 (0), .i .i64 (0), .sl none 0 (.ex 0), .i .i64 (0), .i .i64 (0), .i .i64 (0)] [], 0⟩,
      ⟨none, none, .store 6 (.t 2) (.t 22), 0⟩,
      ⟨(some 3), none, .mv (.k (.b false)), 0⟩])
    (.cut [2, 3] [2] .ret)) (.skip)))
    (.cut [0, 2] [2] (.seq (.reg true [
      ⟨(some 23), none, .mv (.t 0), 0⟩,
      ⟨(some 24), none, .nchk (.t 23), 1⟩,
      ⟨(some 25), none, .fadr 1 (.t 24), 3⟩,
      ⟨(some 26), none, .fadr 2 (.t 25), 7⟩,
      ⟨(some 27), none, .load none (.t 26), 15⟩,
      ⟨(some 28), none, .mv (.t 0), 0⟩,
      ⟨(some 29), none, .nchk (.t 28), 32⟩,
      ⟨(some 30), none, .fadr 4 (.t 29), 96⟩,
      ⟨(some 31), none, .fadr 4 (.t 30), 224⟩,
      ⟨(some 32), none, .load none (.t 31), 480⟩,
      ⟨(some 33), none, .iadr 6 (.t 27) (.t 32), 1023⟩,
      ⟨(some 34), none, .load (some 6) (.t 33), 2047⟩,
      ⟨(some 4), none, .alloc true 42 [.i .i64 (0), .i .i64 (0), .sl none 0 (.ex 0), .i .i64 (0), .i .i64 (0), .i .i64 (0)], 0⟩,
      ⟨none, none, .store 6 (.t 4) (.t 34), 8191⟩])
    (.seq (.reg false [
      ⟨(some 35), none, .fadr 2 (.t 4), 0⟩,
      ⟨(some 36), none, .load none (.t 35), 0⟩,
      ⟨(some 37), none, .call 1 (.k (.fn (.func 20) [] [])) [.t 36], 0⟩,
      ⟨(some 38), none, .fadr 2 (.t 4), 0⟩,
      ⟨none, none, .store 1 (.t 38) (.t 37), 0⟩])
    (.seq (.reg false [
      ⟨(some 39), none, .load (some 6) (.t 4), 0⟩,
      ⟨none, none, .store 6 (.t 2) (.t 39), 0⟩,
      ⟨(some 3), none, .mv (.k (.b true)), 0⟩])
    (.cut [2, 3] [2] .ret))))))⟩

theorem ok6 : okFn Tryd.prog 3 Tryd.f6 a6 = true := by kernel_rfl

/-- (*phasor/stab.Machine).Step -/
def a7 : AFn := ⟨2, 75, [.t 4, .t 5],
    .seq (.reg false [
      ⟨(some 4), none, .mv (.k (.b false)), 0⟩,
      ⟨(some 5), none, .mv (.k (.i .i64 (0))), 0⟩])
    (.seq (.blk 0 (.seq (.reg false [
      ⟨(some 11), none, .mv (.t 0), 0⟩,
      ⟨(some 12), none, .call 0 (.k (.fn (.func 19) [] [])) [.t 11], 0⟩,
      ⟨(some 13), none, .un .not (.t 12), 0⟩,
      ⟨(some 10), none, .mv (.t 13), 0⟩])
    (.ite (.t 10) (.seq (.reg false [
      ⟨(some 4), none, .mv (.k (.b false)), 0⟩,
      ⟨(some 5), none, .mv (.k (.i .i64 (1))), 0⟩])
    (.cut [4, 5] [] .ret)) (.seq (.reg true [
      ⟨(some 15), none, .mv (.t 0), 0⟩,
      ⟨(some 16), none, .nchk (.t 15), 1⟩,
      ⟨(some 17), none, .fadr 4 (.t 16), 3⟩,
      ⟨(some 18), none, .fadr 4 (.t 17), 7⟩,
      ⟨(some 19), none, .load none (.t 18), 15⟩,
      ⟨(some 20), none, .mv (.t 0), 0⟩,
      ⟨(some 21), none, .nchk (.t 20), 32⟩,
      ⟨(some 22), none, .fadr 1 (.t 21), 96⟩,
      ⟨(some 23), none, .fadr 2 (.t 22), 224⟩,
      ⟨(some 24), none, .load none (.t 23), 480⟩,
      ⟨(some 25), none, .len false (.t 24), 992⟩,
      ⟨(some 26), none, .bin .geq (.t 19) (.t 25), 2047⟩,
      ⟨(some 14), none, .mv (.t 26), 4095⟩])
    (.ite (.t 14) (.seq (.reg false [
      ⟨(some 4), none, .mv (.k (.b false)), 0⟩,
      ⟨(some 5), none, .mv (.k (.i .i64 (150))), 0⟩])
    (.cut [4, 5] [] .ret)) (.skip))))))
    (.cut [0, 1] [] (.seq (.reg true [
      ⟨(some 27), none, .mv (.t 0), 0⟩,
      ⟨(some 28), none, .nchk (.t 27), 1⟩,
      ⟨(some 29), none, .fadr 1 (.t 28), 3⟩,
      ⟨(some 30), none, .fadr 2 (.t 29), 7⟩,
      ⟨(some 31), none, .load none (.t 30), 15⟩,
      ⟨(some 32), none, .mv (.t 0), 0⟩,
      ⟨(some 33), none, .nchk (.t 32), 32⟩,
      ⟨(some 34), none, .fadr 4 (.t 33), 96⟩,
      ⟨(some 35), none, .fadr 4 (.t 34), 224⟩,
      ⟨(some 36), none, .load none (.t 35), 480⟩,
      ⟨(some 37), none, .iadr 6 (.t 31) (.t 36), 1023⟩,
      ⟨(some 38), none, .load (some 6) (.t 37), 2047⟩,
      ⟨(some 6), none, .alloc true 42 [.i .i64 (0), .i .i64 (0), .sl none 0 (.ex 0), .i .i64 (0), .i .i64 (0), .i .i64 (0)], 0⟩,
      ⟨none, none, .store 6 (.t 6) (.t 38), 8191⟩])
    (.seq (.reg false [
      ⟨(some 39), none, .mv (.t 0), 0⟩,
      ⟨(some 40), none, .mkf (.func 21) [.t 39] [], 0⟩,
      ⟨(some 7), none, .mv (.t 40), 0⟩])
    (.seq (.seq (.reg false [
      ⟨(some 41), none, .fadr 0 (.t 6), 0⟩,
      ⟨(some 42), none, .load none (.t 41), 0⟩])
    (.blk 1 (.seq (.reg false [
      ⟨(some 44), none, .bin .eql (.t 42) (.k (.i .i64 (2))), 0⟩,
      ⟨(some 43), none, .mv (.t 44), 0⟩])
    (.ite (.t 43) (.reg false [
      ⟨(some 45), none, .mv (.t 0), 0⟩,
      ⟨(some 46), none, .mkf (.func 22) [.t 45] [], 0⟩,
      ⟨(some 7), none, .mv (.t 46), 0⟩]) (.seq (.reg false [
      ⟨(some 48), none, .bin .eql (.t 42) (.k (.i .i64 (3))), 0⟩,
      ⟨(some 47), none, .mv (.t 48), 0⟩])
    (.ite (.t 47) (.reg false [
      ⟨(some 49), none, .mv (.t 0), 0⟩,
      ⟨(some 50), none, .mkf (.func 23) [.t 49] [], 0⟩,
      ⟨(some 7), none, .mv (.t 50), 0⟩]) (.seq (.reg false [
      ⟨(some 52), none, .bin .eql (.t 42) (.k (.i .i64 (4))), 0⟩,
      ⟨(some 51), none, .mv (.t 52), 0⟩])
    (.ite (.t 51) (.reg false [
      ⟨(some 53), none, .mv (.t 0), 0⟩,
      ⟨(some 54), none, .mkf (.func 24) [.t 53] [], 0⟩,
      ⟨(some 7), none, .mv (.t 54), 0⟩]) (.skip)))))))))
    (.cut [0, 1, 6, 7] [6] (.seq (.reg false [
      ⟨(some 56), none, .mv (.t 7), 0⟩,
      ⟨(some 57), none, .load (some 6) (.t 6), 0⟩,
      ⟨(some 58), none, .mv (.t 1), 0⟩,
      ⟨(some 59), none, .call 2 (.t 56) [.t 57, .t 58], 0⟩,
      ⟨(some 55), none, .mv (.t 59), 0⟩,
      ⟨(some 60), none, .ext (.t 55) 0, 0⟩,
      ⟨(some 61), none, .ext (.t 55) 1, 0⟩,
      ⟨(some 8), none, .mv (.t 60), 0⟩,
      ⟨(some 9), none, .mv (.t 61), 0⟩])
    (.seq (.seq (.reg false [
      ⟨(some 62), none, .mv (.t 9), 0⟩,
      ⟨(some 63), none, .bin .eql (.t 62) (.k (.i .i64 (0))), 0⟩])
    (.ite (.t 63) (.reg false [
      ⟨(some 64), none, .mv (.t 0), 0⟩,
      ⟨(some 65), none, .nchk (.t 64), 0⟩,
      ⟨(some 66), none, .fadr 4 (.t 65), 0⟩,
      ⟨(some 67), none, .fadr 4 (.t 66), 0⟩,
      ⟨(some 68), none, .load none (.t 67), 0⟩,
      ⟨(some 69), none, .bin .add (.t 68) (.k (.i .i64 (1))), 0⟩,
      ⟨(some 70), none, .nchk (.t 64), 0⟩,
      ⟨(some 71), none, .fadr 4 (.t 70), 0⟩,
      ⟨(some 72), none, .fadr 4 (.t 71), 0⟩,
      ⟨none, none, .store 1 (.t 72) (.t 69), 0⟩]) (.skip)))
    (.cut [8, 9] [] (.seq (.reg false [
      ⟨(some 73), none, .mv (.t 8), 0⟩,
      ⟨(some 74), none, .mv (.t 9), 0⟩,
      ⟨(some 4), none, .mv (.t 73), 0⟩,
      ⟨(some 5), none, .mv (.t 74), 0⟩])
    (.cut [4, 5] [] .ret)))))))))))⟩

theorem ok7 : okFn Tryd.prog 3 Tryd.f7 a7 = true := by kernel_rfl

def a8L0 : AC :=
    .cut [0, 1, 6] [] (.seq (.seq (.reg true [
      ⟨(some 14), none, .mv (.t 0), 0⟩,
      ⟨(some 15), none, .nchk (.t 14), 1⟩,
      ⟨(some 16), none, .fadr 4 (.t 15), 3⟩,
      ⟨(some 17), none, .fadr 4 (.t 16), 7⟩,
      ⟨(some 18), none, .load none (.t 17), 15⟩,
      ⟨(some 19), none, .mv (.t 0), 0⟩,
      ⟨(some 20), none, .nchk (.t 19), 32⟩,
      ⟨(some 21), none, .fadr 1 (.t 20), 96⟩,
      ⟨(some 22), none, .fadr 2 (.t 21), 224⟩,
      ⟨(some 23), none, .load none (.t 22), 480⟩,
      ⟨(some 24), none, .len false (.t 23), 992⟩,
      ⟨(some 25), none, .bin .lss (.t 18) (.t 24), 2047⟩])
    (.ite (.t 25) (.skip) (.cut [6] [] (.exit 0))))
    (.cut [0, 1, 6] [] (.blk 1 (.seq (.reg true [
      ⟨(some 26), none, .mv (.t 0), 0⟩,
      ⟨(some 27), none, .nchk (.t 26), 1⟩,
      ⟨(some 28), none, .fadr 1 (.t 27), 3⟩,
      ⟨(some 29), none, .fadr 2 (.t 28), 7⟩,
      ⟨(some 30), none, .load none (.t 29), 15⟩,
      ⟨(some 31), none, .mv (.t 0), 0⟩,
      ⟨(some 32), none, .nchk (.t 31), 32⟩,
      ⟨(some 33), none, .fadr 4 (.t 32), 96⟩,
      ⟨(some 34), none, .fadr 4 (.t 33), 224⟩,
      ⟨(some 35), none, .load none (.t 34), 480⟩,
      ⟨(some 36), none, .iadr 6 (.t 30) (.t 35), 1023⟩,
      ⟨(some 37), none, .fadr 0 (.t 36), 2047⟩,
      ⟨(some 38), none, .load none (.t 37), 4095⟩,
      ⟨(some 7), none, .mv (.k (.f .f64 0)), 0⟩,
      ⟨(some 8), none, .mv (.t 38), 16383⟩])
    (.seq (.seq (.reg false [
      ⟨(some 39), none, .mv (.t 8), 0⟩,
      ⟨(some 40), none, .bin .eql (.t 39) (.k (.i .i64 (2))), 0⟩,
      ⟨(some 41), none, .mv (.t 40), 0⟩,
      ⟨(some 42), (some (41, false)), .mv (.t 8), 0⟩,
      ⟨(some 43), (some (41, false)), .bin .eql (.t 42) (.k (.i .i64 (3))), 0⟩,
      ⟨(some 44), none, .pick (.t 41) (.k (.b true)) (.t 43), 0⟩])
    (.ite (.t 44) (.seq (.seq (.reg false [
      ⟨(some 45), none, .mv (.t 6), 0⟩,
      ⟨(some 46), none, .mv (.t 1), 0⟩,
      ⟨(some 47), none, .len false (.t 46), 0⟩,
      ⟨(some 48), none, .bin .eql (.t 45) (.t 47), 0⟩])
    (.ite (.t 48) (.seq (.reg false [
      ⟨(some 49), none, .mv (.t 6), 0⟩,
      ⟨(some 4), none, .mv (.t 49), 0⟩,
      ⟨(some 5), none, .mv (.k (.i .i64 (150))), 0⟩])
    (.cut [4, 5] [] .ret)) (.skip)))
    (.cut [0, 1, 6] [] (.reg false [
      ⟨(some 50), none, .mv (.t 1), 0⟩,
      ⟨(some 51), none, .mv (.t 6), 0⟩,
      ⟨(some 52), none, .iadr 1 (.t 50) (.t 51), 0⟩,
      ⟨(some 53), none, .load none (.t 52), 0⟩,
      ⟨(some 7), none, .mv (.t 53), 0⟩]))) (.skip)))
    (.cut [0, 1, 6, 7] [] (.seq (.reg false [
      ⟨(some 55), none, .mv (.t 0), 0⟩,
      ⟨(some 56), none, .mv (.t 7), 0⟩,
      ⟨(some 57), none, .call 2 (.k (.fn (.func 7) [] [])) [.t 55, .t 56], 0⟩,
      ⟨(some 54), none, .mv (.t 57), 0⟩,
      ⟨(some 58), none, .ext (.t 54) 0, 0⟩,
      ⟨(some 59), none, .ext (.t 54) 1, 0⟩,
      ⟨(some 9), none, .mv (.t 58), 0⟩,
      ⟨(some 10), none, .mv (.t 59), 0⟩])
    (.seq (.seq (.reg false [
      ⟨(some 60), none, .mv (.t 10), 0⟩,
      ⟨(some 61), none, .bin .neq (.t 60) (.k (.i .i64 (0))), 0⟩])
    (.ite (.t 61) (.seq (.reg false [
      ⟨(some 62), none, .mv (.t 6), 0⟩,
      ⟨(some 63), none, .mv (.t 10), 0⟩,
      ⟨(some 4), none, .mv (.t 62), 0⟩,
      ⟨(some 5), none, .mv (.t 63), 0⟩])
    (.cut [4, 5] [] .ret)) (.skip)))
    (.cut [0, 1, 6, 9] [] (.seq (.reg false [
      ⟨(some 64), none, .mv (.t 9), 0⟩])
    (.ite (.t 64) (.reg false [
      ⟨(some 65), none, .mv (.t 6), 0⟩,
      ⟨(some 66), none, .bin .add (.t 65) (.k (.i .i64 (1))), 0⟩,
      ⟨(some 6), none, .mv (.t 66), 0⟩]) (.skip))))))))))))
/-- (*phasor/stab.Machine).Run -/
def a8 : AFn := ⟨2, 68, [.t 4, .t 5],
    .seq (.reg false [
      ⟨(some 4), none, .mv (.k (.i .i64 (0))), 0⟩,
      ⟨(some 5), none, .mv (.k (.i .i64 (0))), 0⟩])
    (.seq (.seq (.reg false [
      ⟨(some 11), none, .mv (.t 0), 0⟩,
      ⟨(some 12), none, .call 0 (.k (.fn (.func 19) [] [])) [.t 11], 0⟩,
      ⟨(some 13), none, .un .not (.t 12), 0⟩])
    (.ite (.t 13) (.seq (.reg false [
      ⟨(some 4), none, .mv (.k (.i .i64 (0))), 0⟩,
      ⟨(some 5), none, .mv (.k (.i .i64 (1))), 0⟩])
    (.cut [4, 5] [] .ret)) (.skip)))
    (.cut [0, 1] [] (.seq (.reg false [
      ⟨(some 6), none, .mv (.k (.i .i64 (0))), 0⟩])
    (.seq (.blk 0 (.loop a8L0))
    (.cut [6] [] (.seq (.reg false [
      ⟨(some 67), none, .mv (.t 6), 0⟩,
      ⟨(some 4), none, .mv (.t 67), 0⟩,
      ⟨(some 5), none, .mv (.k (.i .i64 (0))), 0⟩])
    (.cut [4, 5] [] .ret)))))))⟩

theorem ok8 : okFn Tryd.prog 3 Tryd.f8 a8 = true := by kernel_rfl

/-- (*phasor/stab.Machine).Tableau -/
def a9 : AFn := ⟨1, 13, [.cell 2 (some 3)],
    .seq (.reg false [
      ⟨(some 2), none, .alloc true 30 [.i .i64 (0), .sl none 0 (.ex 0), .sl none 0 (.ex 0)], 0⟩])
    (.seq (.seq (.reg false [
      ⟨(some 3), none, .mv (.t 0), 0⟩,
      ⟨(some 4), none, .call 0 (.k (.fn (.func 19) [] [])) [.t 3], 0⟩,
      ⟨(some 5), none, .un .not (.t 4), 0⟩])
    (.ite (.t 5) (.seq (.reg false [
      ⟨(some 6), none, .build [.i .i64 (0), .sl none 0 (.ex 0), .sl none 0 (.ex 0)] [], 0⟩,
      ⟨none, none, .store 3 (.t 2) (.t 6), 0⟩])
    (.cut [2] [2] .ret)) (.skip)))
    (.cut [0, 2] [2] (.seq (.reg false [
      ⟨(some 7), none, .mv (.t 0), 0⟩,
      ⟨(some 8), none, .nchk (.t 7), 0⟩,
      ⟨(some 9), none, .fadr 4 (.t 8), 0⟩,
      ⟨(some 10), none, .fadr 0 (.t 9), 0⟩,
      ⟨(some 11), none, .load (some 3) (.t 10), 0⟩,
      ⟨(some 12), none, .call 1 (.k (.fn (.func 25) [] [])) [.t 11], 0⟩,
      ⟨none, none, .store 3 (.t 2) (.t 12), 0⟩])
    (.cut [2] [2] .ret))))⟩

theorem ok9 : okFn Tryd.prog 3 Tryd.f9 a9 = true := by kernel_rfl

/-- (*phasor/stab.Machine).Bits -/
def a10 : AFn := ⟨1, 12, [.t 2],
    .seq (.reg false [
      ⟨(some 2), none, .mv (.k (.sl none 0 (.ex 0))), 0⟩])
    (.seq (.seq (.reg false [
      ⟨(some 3), none, .mv (.t 0), 0⟩,
      ⟨(some 4), none, .call 0 (.k (.fn (.func 19) [] [])) [.t 3], 0⟩,
      ⟨(some 5), none, .un .not (.t 4), 0⟩])
    (.ite (.t 5) (.seq (.reg false [
      ⟨(some 2), none, .mv (.k (.sl none 0 (.ex 0))), 0⟩])
    (.cut [2] [] .ret)) (.skip)))
    (.cut [0] [] (.seq (.reg false [
      ⟨(some 6), none, .mv (.t 0), 0⟩,
      ⟨(some 7), none, .nchk (.t 6), 0⟩,
      ⟨(some 8), none, .fadr 4 (.t 7), 0⟩,
      ⟨(some 9), none, .fadr 3 (.t 8), 0⟩,
      ⟨(some 10), none, .load none (.t 9), 0⟩,
      ⟨(some 11), none, .call 1 (.k (.fn (.func 20) [] [])) [.t 10], 0⟩,
      ⟨(some 2), none, .mv (.t 11), 0⟩])
    (.cut [2] [] .ret))))⟩

theorem ok10 : okFn Tryd.prog 3 Tryd.f10 a10 = true := by kernel_rfl

/-- (*phasor/stab.Machine).At -/
def a11 : AFn := ⟨1, 11, [.t 2],
    .seq (.reg false [
      ⟨(some 2), none, .mv (.k (.i .i64 (0))), 0⟩])
    (.seq (.seq (.reg false [
      ⟨(some 3), none, .mv (.t 0), 0⟩,
      ⟨(some 4), none, .call 0 (.k (.fn (.func 19) [] [])) [.t 3], 0⟩,
      ⟨(some 5), none, .un .not (.t 4), 0⟩])
    (.ite (.t 5) (.seq (.reg false [
      ⟨(some 2), none, .mv (.k (.i .i64 (0))), 0⟩])
    (.cut [2] [] .ret)) (.skip)))
    (.cut [0] [] (.seq (.reg false [
      ⟨(some 6), none, .mv (.t 0), 0⟩,
      ⟨(some 7), none, .nchk (.t 6), 0⟩,
      ⟨(some 8), none, .fadr 4 (.t 7), 0⟩,
      ⟨(some 9), none, .fadr 4 (.t 8), 0⟩,
      ⟨(some 10), none, .load none (.t 9), 0⟩,
      ⟨(some 2), none, .mv (.t 10), 0⟩])
    (.cut [2] [] .ret))))⟩

theorem ok11 : okFn Tryd.prog 3 Tryd.f11 a11 = true := by kernel_rfl

/-- (*phasor/stab.Machine).Log -/
def a12 : AFn := ⟨1, 12, [.t 2],
    .seq (.reg false [
      ⟨(some 2), none, .mv (.k (.sl none 0 (.ex 0))), 0⟩])
    (.seq (.seq (.reg false [
      ⟨(some 3), none, .mv (.t 0), 0⟩,
      ⟨(some 4), none, .call 0 (.k (.fn (.func 19) [] [])) [.t 3], 0⟩,
      ⟨(some 5), none, .un .not (.t 4), 0⟩])
    (.ite (.t 5) (.seq (.reg false [
      ⟨(some 2), none, .mv (.k (.sl none 0 (.ex 0))), 0⟩])
    (.cut [2] [] .ret)) (.skip)))
    (.cut [0] [] (.seq (.reg false [
      ⟨(some 6), none, .mv (.t 0), 0⟩,
      ⟨(some 7), none, .nchk (.t 6), 0⟩,
      ⟨(some 8), none, .fadr 4 (.t 7), 0⟩,
      ⟨(some 9), none, .fadr 5 (.t 8), 0⟩,
      ⟨(some 10), none, .load none (.t 9), 0⟩,
      ⟨(some 11), none, .call 1 (.k (.fn (.func 26) [] [])) [.t 10], 0⟩,
      ⟨(some 2), none, .mv (.t 11), 0⟩])
    (.cut [2] [] .ret))))⟩

theorem ok12 : okFn Tryd.prog 3 Tryd.f12 a12 = true := by kernel_rfl

def a13L0 : AC :=
    .cut [3, 13, 14, 15] [] (.seq (.reg false [
      ⟨(some 16), none, .bin .lss (.t 15) (.t 14), 0⟩])
    (.seq (.ite (.t 16) (.skip) (.cut [3] [] (.exit 0)))
    (.cut [3, 13, 14, 15] [] (.seq (.blk 1 (.seq (.reg false [
      ⟨(some 17), none, .iadr 6 (.t 13) (.t 15), 0⟩,
      ⟨(some 18), none, .load (some 6) (.t 17), 0⟩,
      ⟨(some 5), none, .alloc true 64 [.i .i64 (0), .i .i64 (0), .i .i64 (0), .i .i64 (0), .f .f64 0, .f .f64 0], 0⟩,
      ⟨none, none, .store 6 (.t 5) (.t 18), 0⟩])
    (.seq (.reg false [
      ⟨(some 19), none, .fadr 4 (.t 5), 0⟩,
      ⟨(some 20), none, .load none (.t 19), 0⟩,
      ⟨(some 21), none, .fadr 5 (.t 5), 0⟩,
      ⟨(some 22), none, .load none (.t 21), 0⟩,
      ⟨(some 23), none, .pop (.fcmp .eql) [.t 20, .t 22], 0⟩])
    (.ite (.t 23) (.reg false [
      ⟨(some 24), none, .mv (.t 3), 0⟩,
      ⟨(some 25), none, .bin .add (.t 24) (.k (.i .i64 (1))), 0⟩,
      ⟨(some 3), none, .mv (.t 25), 0⟩]) (.skip)))))
    (.cut [3, 13, 14, 15] [] (.reg false [
      ⟨(some 26), none, .bin .add (.t 15) (.k (.i .i64 (1))), 0⟩,
      ⟨(some 15), none, .mv (.t 26), 0⟩]))))))
/-- (*phasor/stab.Machine).Open -/
def a13 : AFn := ⟨1, 28, [.t 2],
    .seq (.reg false [
      ⟨(some 2), none, .mv (.k (.i .i64 (0))), 0⟩])
    (.seq (.seq (.reg false [
      ⟨(some 6), none, .mv (.t 0), 0⟩,
      ⟨(some 7), none, .call 0 (.k (.fn (.func 19) [] [])) [.t 6], 0⟩,
      ⟨(some 8), none, .un .not (.t 7), 0⟩])
    (.ite (.t 8) (.seq (.reg false [
      ⟨(some 2), none, .mv (.k (.i .i64 (0))), 0⟩])
    (.cut [2] [] .ret)) (.skip)))
    (.cut [0] [] (.seq (.reg false [
      ⟨(some 3), none, .mv (.k (.i .i64 (0))), 0⟩])
    (.seq (.seq (.reg false [
      ⟨(some 9), none, .mv (.t 0), 0⟩,
      ⟨(some 10), none, .nchk (.t 9), 0⟩,
      ⟨(some 11), none, .fadr 4 (.t 10), 0⟩,
      ⟨(some 12), none, .fadr 5 (.t 11), 0⟩,
      ⟨(some 13), none, .load none (.t 12), 0⟩,
      ⟨(some 14), none, .len false (.t 13), 0⟩,
      ⟨(some 15), none, .mv (.k (.i .i64 (0))), 0⟩])
    (.blk 0 (.loop a13L0)))
    (.cut [3] [] (.seq (.reg false [
      ⟨(some 27), none, .mv (.t 3), 0⟩,
      ⟨(some 2), none, .mv (.t 27), 0⟩])
    (.cut [2] [] .ret)))))))⟩

theorem ok13 : okFn Tryd.prog 3 Tryd.f13 a13 = true := by kernel_rfl

/-- (*phasor/stab.Machine).Copy -/
def a14 : AFn := ⟨1, 36, [.t 2],
    .seq (.reg false [
      ⟨(some 2), none, .mv (.k (.p none)), 0⟩])
    (.seq (.seq (.reg false [
      ⟨(some 3), none, .mv (.t 0), 0⟩,
      ⟨(some 4), none, .call 0 (.k (.fn (.func 19) [] [])) [.t 3], 0⟩,
      ⟨(some 5), none, .un .not (.t 4), 0⟩])
    (.ite (.t 5) (.seq (.reg false [
      ⟨(some 2), none, .mv (.k (.p none)), 0⟩])
    (.cut [2] [] .ret)) (.skip)))
    (.cut [0] [] (.seq (.reg true [
      ⟨(some 6), none, .mv (.t 0), 0⟩,
      ⟨(some 7), none, .nchk (.t 6), 1⟩,
      ⟨(some 8), none, .fadr 1 (.t 7), 3⟩,
      ⟨(some 9), none, .load (some 3) (.t 8), 7⟩,
      ⟨(some 10), none, .mv (.t 0), 0⟩,
      ⟨(some 11), none, .nchk (.t 10), 16⟩,
      ⟨(some 12), none, .fadr 4 (.t 11), 48⟩,
      ⟨(some 13), none, .fadr 0 (.t 12), 112⟩,
      ⟨(some 14), none, .load (some 3) (.t 13), 240⟩,
      ⟨(some 15), none, .call 1 (.k (.fn (.func 25) [] [])) [.t 14], 496⟩,
      ⟨(some 16), none, .mv (.t 0), 0⟩,
      ⟨(some 17), none, .nchk (.t 16), 1024⟩,
      ⟨(some 18), none, .fadr 4 (.t 17), 3072⟩,
      ⟨(some 19), none, .fadr 3 (.t 18), 7168⟩,
      ⟨(some 20), none, .load none (.t 19), 15360⟩,
      ⟨(some 21), none, .call 1 (.k (.fn (.func 20) [] [])) [.t 20], 32752⟩,
      ⟨(some 22), none, .mv (.t 0), 0⟩,
      ⟨(some 23), none, .nchk (.t 22), 65536⟩,
      ⟨(some 24), none, .fadr 4 (.t 23), 196608⟩,
      ⟨(some 25), none, .fadr 4 (.t 24), 458752⟩,
      ⟨(some 26), none, .load none (.t 25), 983040⟩,
      ⟨(some 27), none, .mv (.t 0), 0⟩,
      ⟨(some 28), none, .nchk (.t 27), 2097152⟩,
      ⟨(some 29), none, .fadr 4 (.t 28), 6291456⟩,
      ⟨(some 30), none, .fadr 5 (.t 29), 14680064⟩,
      ⟨(some 31), none, .load none (.t 30), 31457280⟩,
      ⟨(some 32), none, .call 1 (.k (.fn (.func 26) [] [])) [.t 31], 65077232⟩,
      ⟨(some 33), none, .build [.i .i64 (0), .sl none 0 (.ex 0), .sl none 0 (.ex 0), .sl none 0 (.ex 0), .i .i64 (0), .sl none 0 (.ex 0)] [(0, 3, .t 15), (3, 1, .t 21), (4, 1, .t 26), (5, 1, .t 32)], 134217712⟩,
      ⟨(some 34), none, .build [.b false, .i .i64 (0), .i .i64 (0), .sl none 0 (.ex 0), .i .i64 (0), .sl none 0 (.ex 0), .sl none 0 (.ex 0), .sl none 0 (.ex 0), .i .i64 (0), .sl none 0 (.ex 0)] [(0, 1, .k (.b true)), (1, 3, .t 9), (4, 6, .t 33)], 268435455⟩,
      ⟨(some 35), none, .box false 36 (.t 34), 536870911⟩,
      ⟨(some 2), none, .mv (.t 35), 1073741823⟩])
    (.cut [2] [] .ret))))⟩

theorem ok14 : okFn Tryd.prog 3 Tryd.f14 a14 = true := by kernel_rfl

/-- phasor/stab.New -/
def a15 : AFn := ⟨1, 33, [.t 2, .t 3],
    .seq (.reg false [
      ⟨(some 1), none, .box true 27 (.t 0), 0⟩,
      ⟨(some 2), none, .mv (.k (.p none)), 0⟩,
      ⟨(some 3), none, .mv (.k (.i .i64 (0))), 0⟩])
    (.seq (.seq (.reg false [
      ⟨(some 9), none, .load (some 3) (.t 1), 0⟩,
      ⟨(some 10), none, .call 0 (.k (.fn (.func 27) [] [])) [.t 9], 0⟩,
      ⟨(some 8), none, .mv (.t 10), 0⟩,
      ⟨(some 11), none, .ext (.t 8) 0, 0⟩,
      ⟨(some 12), none, .ext (.t 8) 1, 0⟩,
      ⟨(some 4), none, .mv (.t 11), 0⟩,
      ⟨(some 5), none, .mv (.t 12), 0⟩])
    (.seq (.reg false [
      ⟨(some 13), none, .mv (.t 5), 0⟩,
      ⟨(some 14), none, .bin .neq (.t 13) (.k (.i .i64 (0))), 0⟩])
    (.ite (.t 14) (.seq (.reg false [
      ⟨(some 2), none, .mv (.k (.p none)), 0⟩,
      ⟨(some 3), none, .mv (.k (.i .i64 (80))), 0⟩])
    (.cut [2, 3] [] .ret)) (.skip))))
    (.cut [1] [1] (.seq (.seq (.reg false [
      ⟨(some 15), none, .load (some 3) (.t 1), 0⟩,
      ⟨(some 16), none, .call 0 (.k (.fn (.func 28) [] [])) [.t 15], 0⟩,
      ⟨(some 17), none, .un .not (.t 16), 0⟩])
    (.ite (.t 17) (.seq (.reg false [
      ⟨(some 2), none, .mv (.k (.p none)), 0⟩,
      ⟨(some 3), none, .mv (.k (.i .i64 (150))), 0⟩])
    (.cut [2, 3] [] .ret)) (.skip)))
    (.cut [1] [1] (.seq (.reg false [
      ⟨(some 19), none, .fadr 0 (.t 1), 0⟩,
      ⟨(some 20), none, .load none (.t 19), 0⟩,
      ⟨(some 21), none, .call 1 (.k (.fn (.func 29) [] [])) [.t 20], 0⟩,
      ⟨(some 18), none, .mv (.t 21), 0⟩,
      ⟨(some 22), none, .ext (.t 18) 0, 0⟩,
      ⟨(some 23), none, .ext (.t 18) 1, 0⟩,
      ⟨(some 6), none, .alloc true 30 [.i .i64 (0), .sl none 0 (.ex 0), .sl none 0 (.ex 0)], 0⟩,
      ⟨none, none, .store 3 (.t 6) (.t 22), 0⟩,
      ⟨(some 7), none, .mv (.t 23), 0⟩])
    (.seq (.reg true [
      ⟨(some 24), none, .load (some 3) (.t 1), 0⟩,
      ⟨(some 25), none, .call 1 (.k (.fn (.func 30) [] [])) [.t 24], 1⟩,
      ⟨(some 26), none, .load (some 3) (.t 6), 0⟩,
      ⟨(some 27), none, .fadr 1 (.t 1), 0⟩,
      ⟨(some 28), none, .load none (.t 27), 8⟩,
      ⟨(some 29), none, .mks 3 1 8 [.i .i64 (0)] (.t 28) (.t 28), 24⟩,
      ⟨(some 30), none, .build [.i .i64 (0), .sl none 0 (.ex 0), .sl none 0 (.ex 0), .sl none 0 (.ex 0), .i .i64 (0), .sl none 0 (.ex 0)] [(0, 3, .t 26), (3, 1, .t 29)], 60⟩,
      ⟨(some 31), none, .build [.b false, .i .i64 (0), .i .i64 (0), .sl none 0 (.ex 0), .i .i64 (0), .sl none 0 (.ex 0), .sl none 0 (.ex 0), .sl none 0 (.ex 0), .i .i64 (0), .sl none 0 (.ex 0)] [(0, 1, .k (.b true)), (1, 3, .t 25), (4, 6, .t 30)], 127⟩,
      ⟨(some 32), none, .box false 36 (.t 31), 255⟩,
      ⟨(some 2), none, .mv (.t 32), 511⟩,
      ⟨(some 3), none, .mv (.k (.i .i64 (0))), 1023⟩])
    (.cut [2, 3] [] .ret)))))))⟩

theorem ok15 : okFn Tryd.prog 3 Tryd.f15 a15 = true := by kernel_rfl

/-- phasor/phasorlaw15.Bell -/
def a16 : AFn := ⟨0, 11, [.cell 0 (some 3)],
    .seq (.reg false [
      ⟨(some 0), none, .alloc true 27 [.i .i64 (0), .i .i64 (0), .sl none 0 (.ex 0)], 0⟩])
    (.seq (.reg false [
      ⟨(some 1), none, .bslice 3 1 1 [.i .i64 (0)] [(0, 1, .k (.i .i64 (0)))], 0⟩,
      ⟨(some 2), none, .call 1 (.k (.fn (.func 18) [] [])) [.k (.i .i64 (9)), .t 1], 0⟩,
      ⟨(some 3), none, .bslice 3 1 2 [.i .i64 (0), .i .i64 (0)] [(0, 1, .k (.i .i64 (0))), (1, 1, .k (.i .i64 (1)))], 0⟩,
      ⟨(some 4), none, .call 1 (.k (.fn (.func 18) [] [])) [.k (.i .i64 (11)), .t 3], 0⟩,
      ⟨(some 5), none, .bslice 3 1 1 [.i .i64 (0)] [(0, 1, .k (.i .i64 (0)))], 0⟩,
      ⟨(some 6), none, .build [.i .i64 (0), .i .i64 (0), .sl none 0 (.ex 0), .i .i64 (0), .i .i64 (0), .i .i64 (0)] [(0, 1, .k (.i .i64 (2))), (2, 1, .t 5), (4, 1, .k (.i .i64 (-1)))], 0⟩,
      ⟨(some 7), none, .bslice 3 1 1 [.i .i64 (0)] [(0, 1, .k (.i .i64 (1)))], 0⟩,
      ⟨(some 8), none, .build [.i .i64 (0), .i .i64 (0), .sl none 0 (.ex 0), .i .i64 (0), .i .i64 (0), .i .i64 (0)] [(0, 1, .k (.i .i64 (2))), (2, 1, .t 7), (3, 1, .k (.i .i64 (1))), (4, 1, .k (.i .i64 (-1)))], 0⟩,
      ⟨(some 9), none, .bslice 42 6 4 [.i .i64 (0), .i .i64 (0), .sl none 0 (.ex 0), .i .i64 (0), .i .i64 (0), .i .i64 (0), .i .i64 (0), .i .i64 (0), .sl none 0 (.ex 0), .i .i64 (0), .i .i64 (0), .i .i64 (0), .i .i64 (0), .i .i64 (0), .sl none 0 (.ex 0), .i .i64 (0), .i .i64 (0), .i .i64 (0), .i .i64 (0), .i .i64 (0), .sl none 0 (.ex 0), .i .i64 (0), .i .i64 (0), .i .i64 (0)] [(0, 6, .t 2), (6, 6, .t 4), (12, 6, .t 6), (18, 6, .t 8)], 0⟩,
      ⟨(some 10), none, .build [.i .i64 (0), .i .i64 (0), .sl none 0 (.ex 0)] [(0, 1, .k (.i .i64 (2))), (1, 1, .k (.i .i64 (2))), (2, 1, .t 9)], 0⟩,
      ⟨none, none, .store 3 (.t 0) (.t 10), 0⟩])
    (.cut [0] [0] .ret))⟩

theorem ok16 : okFn Tryd.prog 3 Tryd.f16 a16 = true := by kernel_rfl

def a17L0 : AC :=
    .cut [1, 5, 9, 24, 25, 36, 37, 38, 48, 49, 50] [1] (.seq (.reg false [
      ⟨(some 51), none, .bin .lss (.t 50) (.t 49), 0⟩])
    (.seq (.ite (.t 51) (.skip) (.cut [1, 5, 24, 25, 36, 37, 38] [1] (.exit 5)))
    (.cut [1, 5, 9, 24, 25, 36, 37, 38, 48, 49, 50] [1] (.seq (.blk 6 (.seq (.reg false [
      ⟨(some 52), none, .mv (.t 50), 0⟩,
      ⟨(some 53), none, .iadr 1 (.t 48) (.t 50), 0⟩,
      ⟨(some 54), none, .load none (.t 53), 0⟩,
      ⟨(some 11), none, .mv (.t 52), 0⟩,
      ⟨(some 12), none, .mv (.t 54), 0⟩])
    (.seq (.reg false [
      ⟨(some 55), none, .mv (.t 12), 0⟩,
      ⟨(some 56), none, .mv (.t 9), 0⟩,
      ⟨(some 57), none, .mv (.t 11), 0⟩,
      ⟨(some 58), none, .iadr 1 (.t 56) (.t 57), 0⟩,
      ⟨(some 59), none, .load none (.t 58), 0⟩,
      ⟨(some 60), none, .call 0 (.k (.fn (.func 34) [] [])) [.t 55, .t 59], 0⟩,
      ⟨(some 13), none, .mv (.t 60), 0⟩])
    (.reg false [
      ⟨(some 61), none, .mv (.t 5), 0⟩,
      ⟨(some 62), none, .mv (.t 11), 0⟩,
      ⟨(some 63), none, .mv (.t 13), 0⟩,
      ⟨(some 64), none, .pop .re [.t 63], 0⟩,
      ⟨(some 65), none, .pop (.fbin .mul) [.t 64, .k (.f .f64 4602678819172646912)], 0⟩,
      ⟨(some 66), none, .mv (.t 13), 0⟩,
      ⟨(some 67), none, .pop .im [.t 66], 0⟩,
      ⟨(some 68), none, .pop (.fbin .mul) [.t 67, .k (.f .f64 4602678819172646912)], 0⟩,
      ⟨(some 69), none, .pop .mk [.t 65, .t 68], 0⟩,
      ⟨(some 70), none, .iadr 1 (.t 61) (.t 62), 0⟩,
      ⟨none, none, .store 1 (.t 70) (.t 69), 0⟩]))))
    (.cut [1, 5, 9, 24, 25, 36, 37, 38, 48, 49, 50] [1] (.reg false [
      ⟨(some 71), none, .bin .add (.t 50) (.k (.i .i64 (1))), 0⟩,
      ⟨(some 50), none, .mv (.t 71), 0⟩]))))))
def a17L1 : AC :=
    .cut [1, 5, 24, 25, 36, 37, 38] [1] (.seq (.reg false [
      ⟨(some 39), none, .bin .lss (.t 38) (.t 37), 0⟩])
    (.seq (.ite (.t 39) (.skip) (.cut [1, 5, 24, 25] [1] (.exit 3)))
    (.cut [1, 5, 24, 25, 36, 37, 38] [1] (.seq (.blk 4 (.seq (.reg false [
      ⟨(some 40), none, .iadr 4 (.t 36) (.t 38), 0⟩,
      ⟨(some 41), none, .load (some 4) (.t 40), 0⟩,
      ⟨(some 8), none, .alloc true 67 [.i .i64 (0), .i .u64 (0), .i .u64 (0), .i .i64 (0)], 0⟩,
      ⟨none, none, .store 4 (.t 8) (.t 41), 0⟩])
    (.seq (.reg false [
      ⟨(some 43), none, .load (some 4) (.t 8), 0⟩,
      ⟨(some 44), none, .mv (.t 5), 0⟩,
      ⟨(some 45), none, .call 1 (.k (.fn (.func 33) [] [])) [.t 43, .t 44], 0⟩,
      ⟨(some 42), none, .mv (.t 45), 0⟩,
      ⟨(some 46), none, .ext (.t 42) 0, 0⟩,
      ⟨(some 47), none, .ext (.t 42) 1, 0⟩,
      ⟨(some 9), none, .mv (.t 46), 0⟩,
      ⟨(some 10), none, .mv (.t 47), 0⟩])
    (.seq (.reg false [
      ⟨(some 48), none, .mv (.t 5), 0⟩,
      ⟨(some 49), none, .len false (.t 48), 0⟩,
      ⟨(some 50), none, .mv (.k (.i .i64 (0))), 0⟩])
    (.blk 5 (.loop a17L0))))))
    (.cut [1, 5, 24, 25, 36, 37, 38] [1] (.reg false [
      ⟨(some 72), none, .bin .add (.t 38) (.k (.i .i64 (1))), 0⟩,
      ⟨(some 38), none, .mv (.t 72), 0⟩]))))))
def a17L2 : AC :=
    .cut [1, 24, 25] [1] (.seq (.reg false [
      ⟨(some 26), none, .bin .lss (.t 25) (.t 24), 0⟩])
    (.seq (.ite (.t 26) (.skip) (.cut [] [] (.exit 1)))
    (.cut [1, 24, 25] [1] (.seq (.blk 2 (.seq (.reg false [
      ⟨(some 27), none, .mv (.t 25), 0⟩,
      ⟨(some 4), none, .mv (.t 27), 0⟩])
    (.seq (.reg false [
      ⟨(some 29), none, .fadr 0 (.t 1), 0⟩,
      ⟨(some 30), none, .load none (.t 29), 0⟩,
      ⟨(some 31), none, .mv (.t 4), 0⟩,
      ⟨(some 32), none, .call 1 (.k (.fn (.func 32) [] [])) [.t 30, .t 31], 0⟩,
      ⟨(some 28), none, .mv (.t 32), 0⟩,
      ⟨(some 33), none, .ext (.t 28) 0, 0⟩,
      ⟨(some 34), none, .ext (.t 28) 1, 0⟩,
      ⟨(some 5), none, .mv (.t 33), 0⟩,
      ⟨(some 6), none, .mv (.t 34), 0⟩])
    (.seq (.seq (.reg false [
      ⟨(some 35), none, .fadr 1 (.t 1), 0⟩,
      ⟨(some 36), none, .load none (.t 35), 0⟩,
      ⟨(some 37), none, .len false (.t 36), 0⟩,
      ⟨(some 38), none, .mv (.k (.i .i64 (0))), 0⟩])
    (.blk 3 (.loop a17L1)))
    (.cut [1, 5, 24, 25] [1] (.seq (.reg false [
      ⟨(some 73), none, .mv (.t 5), 0⟩,
      ⟨(some 74), none, .call 0 (.k (.fn (.func 35) [] [])) [.t 73, .k (.fn (.func 36) [] [])], 0⟩])
    (.ite (.t 74) (.seq (.reg false [
      ⟨(some 75), none, .mv (.t 5), 0⟩,
      ⟨(some 2), none, .mv (.t 75), 0⟩,
      ⟨(some 3), none, .mv (.k (.i .i64 (0))), 0⟩])
    (.cut [2, 3] [] .ret)) (.skip))))))))
    (.cut [1, 24, 25] [1] (.reg false [
      ⟨(some 76), none, .bin .add (.t 25) (.k (.i .i64 (1))), 0⟩,
      ⟨(some 25), none, .mv (.t 76), 0⟩]))))))
/-- phasor/stab.State -/
def a17 : AFn := ⟨1, 77, [.t 2, .t 3],
    .seq (.reg false [
      ⟨(some 1), none, .box true 30 (.t 0), 0⟩,
      ⟨(some 2), none, .mv (.k (.sl none 0 (.ex 0))), 0⟩,
      ⟨(some 3), none, .mv (.k (.i .i64 (0))), 0⟩])
    (.seq (.blk 0 (.seq (.reg false [
      ⟨(some 15), none, .load (some 3) (.t 1), 0⟩,
      ⟨(some 16), none, .call 0 (.k (.fn (.func 31) [] [])) [.t 15], 0⟩,
      ⟨(some 17), none, .bin .neq (.t 16) (.k (.i .i64 (0))), 0⟩,
      ⟨(some 14), none, .mv (.t 17), 0⟩])
    (.ite (.t 14) (.seq (.reg false [
      ⟨(some 2), none, .mv (.k (.sl none 0 (.ex 0))), 0⟩,
      ⟨(some 3), none, .mv (.k (.i .i64 (140))), 0⟩])
    (.cut [2, 3] [] .ret)) (.seq (.reg false [
      ⟨(some 19), none, .fadr 0 (.t 1), 0⟩,
      ⟨(some 20), none, .load none (.t 19), 0⟩,
      ⟨(some 21), none, .bin .gtr (.t 20) (.k (.i .i64 (12))), 0⟩,
      ⟨(some 18), none, .mv (.t 21), 0⟩])
    (.ite (.t 18) (.seq (.reg false [
      ⟨(some 2), none, .mv (.k (.sl none 0 (.ex 0))), 0⟩,
      ⟨(some 3), none, .mv (.k (.i .i64 (150))), 0⟩])
    (.cut [2, 3] [] .ret)) (.skip))))))
    (.cut [1] [1] (.seq (.seq (.reg false [
      ⟨(some 22), none, .fadr 0 (.t 1), 0⟩,
      ⟨(some 23), none, .load none (.t 22), 0⟩,
      ⟨(some 24), none, .bin .shl (.k (.i .i64 (1))) (.t 23), 0⟩,
      ⟨(some 25), none, .mv (.k (.i .i64 (0))), 0⟩])
    (.blk 1 (.loop a17L2)))
    (.cut [] [] (.seq (.reg false [
      ⟨(some 2), none, .mv (.k (.sl none 0 (.ex 0))), 0⟩,
      ⟨(some 3), none, .mv (.k (.i .i64 (150))), 0⟩])
    (.cut [2, 3] [] .ret))))))⟩

theorem ok17 : okFn Tryd.prog 3 Tryd.f17 a17 = true := by kernel_rfl

/-- phasor/phasorlaw17.G -/
def a18 : AFn := ⟨2, 8, [.cell 4 (some 6)],
    .seq (.reg false [
      ⟨(some 4), none, .alloc true 42 [.i .i64 (0), .i .i64 (0), .sl none 0 (.ex 0), .i .i64 (0), .i .i64 (0), .i .i64 (0)], 0⟩])
    (.seq (.reg false [
      ⟨(some 5), none, .mv (.t 0), 0⟩,
      ⟨(some 6), none, .mv (.t 1), 0⟩,
      ⟨(some 7), none, .build [.i .i64 (0), .i .i64 (0), .sl none 0 (.ex 0), .i .i64 (0), .i .i64 (0), .i .i64 (0)] [(0, 1, .k (.i .i64 (1))), (1, 1, .t 5), (2, 1, .t 6), (4, 1, .k (.i .i64 (-1)))], 0⟩,
      ⟨none, none, .store 6 (.t 4) (.t 7), 0⟩])
    (.cut [4] [4] .ret))⟩

theorem ok18 : okFn Tryd.prog 3 Tryd.f18 a18 = true := by kernel_rfl

/-- (*phasor/stab.Machine).alive -/
def a19 : AFn := ⟨1, 11, [.t 2],
    .seq (.reg false [
      ⟨(some 2), none, .mv (.k (.b false)), 0⟩])
    (.seq (.reg false [
      ⟨(some 3), none, .mv (.t 0), 0⟩,
      ⟨(some 4), none, .pop (.pnil true) [.t 3], 0⟩,
      ⟨(some 5), none, .mv (.t 4), 0⟩,
      ⟨(some 6), (some (5, true)), .mv (.t 0), 0⟩,
      ⟨(some 7), (some (5, true)), .nchk (.t 6), 0⟩,
      ⟨(some 8), (some (5, true)), .fadr 0 (.t 7), 0⟩,
      ⟨(some 9), (some (5, true)), .load none (.t 8), 0⟩,
      ⟨(some 10), none, .pick (.t 5) (.t 9) (.k (.b false)), 0⟩,
      ⟨(some 2), none, .mv (.t 10), 0⟩])
    (.cut [2] [] .ret))⟩

theorem ok19 : okFn Tryd.prog 3 Tryd.f19 a19 = true := by kernel_rfl

/-- slices.Clone[[]int,int] -/
def a20 : AFn := ⟨1, 8, [.t 2],
    .seq (.reg false [
      ⟨(some 2), none, .mv (.k (.sl none 0 (.ex 0))), 0⟩])
    (.seq (.seq (.reg false [
      ⟨(some 3), none, .mv (.t 0), 0⟩,
      ⟨(some 4), none, .eqnil false (.t 3), 0⟩])
    (.ite (.t 4) (.seq (.reg false [
      ⟨(some 2), none, .mv (.k (.sl none 0 (.ex 0))), 0⟩])
    (.cut [2] [] .ret)) (.skip)))
    (.cut [0] [] (.seq (.reg false [
      ⟨(some 5), none, .bslice 3 1 0 [] [], 0⟩,
      ⟨(some 6), none, .mv (.t 0), 0⟩,
      ⟨(some 7), none, .app 3 1 8 (.t 5) (.t 6), 0⟩,
      ⟨(some 2), none, .mv (.t 7), 0⟩])
    (.cut [2] [] .ret))))⟩

theorem ok20 : okFn Tryd.prog 3 Tryd.f20 a20 = true := by kernel_rfl

/-- (*phasor/stab.Machine).gate -/
def a21 : AFn := ⟨3, 42, [.t 6, .t 7],
    .seq (.reg false [
      ⟨(some 4), none, .box true 42 (.t 1), 0⟩,
      ⟨(some 6), none, .mv (.k (.b false)), 0⟩,
      ⟨(some 7), none, .mv (.k (.i .i64 (0))), 0⟩])
    (.seq (.seq (.reg true [
      ⟨(some 8), none, .fadr 4 (.t 4), 0⟩,
      ⟨(some 9), none, .load none (.t 8), 1⟩,
      ⟨(some 10), none, .bin .lss (.t 9) (.k (.i .i64 (0))), 3⟩,
      ⟨(some 11), none, .mv (.t 10), 7⟩,
      ⟨(some 12), (some (11, false)), .mv (.t 0), 15⟩,
      ⟨(some 13), (some (11, false)), .nchk (.t 12), 31⟩,
      ⟨(some 14), (some (11, false)), .fadr 4 (.t 13), 63⟩,
      ⟨(some 15), (some (11, false)), .fadr 3 (.t 14), 127⟩,
      ⟨(some 16), (some (11, false)), .load none (.t 15), 255⟩,
      ⟨(some 17), (some (11, false)), .fadr 4 (.t 4), 15⟩,
      ⟨(some 18), (some (11, false)), .load none (.t 17), 527⟩,
      ⟨(some 19), (some (11, false)), .iadr 1 (.t 16) (.t 18), 2047⟩,
      ⟨(some 20), (some (11, false)), .load none (.t 19), 4095⟩,
      ⟨(some 21), (some (11, false)), .fadr 5 (.t 4), 15⟩,
      ⟨(some 22), (some (11, false)), .load none (.t 21), 8207⟩,
      ⟨(some 23), (some (11, false)), .bin .eql (.t 20) (.t 22), 32767⟩,
      ⟨(some 24), none, .pick (.t 11) (.k (.b true)) (.t 23), 65535⟩])
    (.ite (.t 24) (.reg true [
      ⟨(some 26), none, .mv (.t 0), 0⟩,
      ⟨(some 27), none, .mv (.t 0), 0⟩,
      ⟨(some 28), none, .nchk (.t 27), 2⟩,
      ⟨(some 29), none, .fadr 4 (.t 28), 6⟩,
      ⟨(some 30), none, .fadr 0 (.t 29), 14⟩,
      ⟨(some 31), none, .load (some 3) (.t 30), 30⟩,
      ⟨(some 32), none, .fadr 1 (.t 4), 0⟩,
      ⟨(some 33), none, .load none (.t 32), 64⟩,
      ⟨(some 34), none, .fadr 2 (.t 4), 0⟩,
      ⟨(some 35), none, .load none (.t 34), 256⟩,
      ⟨(some 36), none, .call 1 (.k (.fn (.func 37) [] [])) [.t 31, .t 33, .t 35], 1022⟩,
      ⟨(some 25), none, .mv (.t 36), 2046⟩,
      ⟨(some 37), none, .ext (.t 25) 0, 4094⟩,
      ⟨(some 38), none, .ext (.t 25) 1, 4094⟩,
      ⟨(some 39), none, .nchk (.t 26), 8191⟩,
      ⟨(some 40), none, .fadr 4 (.t 39), 24575⟩,
      ⟨(some 41), none, .fadr 0 (.t 40), 57343⟩,
      ⟨none, none, .store 3 (.t 41) (.t 37), 122879⟩]) (.skip)))
    (.cut [] [] (.seq (.reg false [
      ⟨(some 6), none, .mv (.k (.b false)), 0⟩,
      ⟨(some 7), none, .mv (.k (.i .i64 (0))), 0⟩])
    (.cut [6, 7] [] .ret))))⟩

theorem ok21 : okFn Tryd.prog 3 Tryd.f21 a21 = true := by kernel_rfl

/-- (*phasor/stab.Machine).measure -/
def a22 : AFn := ⟨3, 59, [.t 6, .t 7],
    .seq (.reg false [
      ⟨(some 4), none, .box true 42 (.t 1), 0⟩,
      ⟨(some 6), none, .mv (.k (.b false)), 0⟩,
      ⟨(some 7), none, .mv (.k (.i .i64 (0))), 0⟩])
    (.seq (.reg false [
      ⟨(some 11), none, .mv (.t 0), 0⟩,
      ⟨(some 12), none, .load (some 6) (.t 4), 0⟩,
      ⟨(some 13), none, .mv (.t 2), 0⟩,
      ⟨(some 14), none, .call 0 (.k (.fn (.func 38) [] [])) [.t 11, .t 12, .t 13], 0⟩,
      ⟨(some 10), none, .mv (.t 14), 0⟩,
      ⟨(some 15), none, .ext (.t 10) 0, 0⟩,
      ⟨(some 16), none, .ext (.t 10) 1, 0⟩,
      ⟨(some 8), none, .alloc true 64 [.i .i64 (0), .i .i64 (0), .i .i64 (0), .i .i64 (0), .f .f64 0, .f .f64 0], 0⟩,
      ⟨none, none, .store 6 (.t 8) (.t 15), 0⟩,
      ⟨(some 9), none, .mv (.t 16), 0⟩])
    (.seq (.seq (.reg false [
      ⟨(some 17), none, .mv (.t 9), 0⟩,
      ⟨(some 18), none, .bin .neq (.t 17) (.k (.i .i64 (0))), 0⟩])
    (.ite (.t 18) (.seq (.reg false [
      ⟨(some 19), none, .mv (.t 9), 0⟩,
      ⟨(some 6), none, .mv (.k (.b false)), 0⟩,
      ⟨(some 7), none, .mv (.t 19), 0⟩])
    (.cut [6, 7] [] .ret)) (.skip)))
    (.cut [0, 4, 8] [4, 8] (.seq (.reg true [
      ⟨(some 21), none, .mv (.t 0), 0⟩,
      ⟨(some 22), none, .mv (.t 0), 0⟩,
      ⟨(some 23), none, .nchk (.t 22), 2⟩,
      ⟨(some 24), none, .fadr 4 (.t 23), 6⟩,
      ⟨(some 25), none, .fadr 0 (.t 24), 14⟩,
      ⟨(some 26), none, .load (some 3) (.t 25), 30⟩,
      ⟨(some 27), none, .fadr 1 (.t 8), 0⟩,
      ⟨(some 28), none, .load none (.t 27), 64⟩,
      ⟨(some 29), none, .fadr 3 (.t 8), 0⟩,
      ⟨(some 30), none, .load none (.t 29), 256⟩,
      ⟨(some 31), none, .call 1 (.k (.fn (.func 39) [] [])) [.t 26, .t 28, .t 30], 1022⟩,
      ⟨(some 20), none, .mv (.t 31), 2046⟩,
      ⟨(some 32), none, .ext (.t 20) 0, 4094⟩,
      ⟨(some 33), none, .ext (.t 20) 1, 4094⟩,
      ⟨(some 34), none, .nchk (.t 21), 8191⟩,
      ⟨(some 35), none, .fadr 4 (.t 34), 24575⟩,
      ⟨(some 36), none, .fadr 0 (.t 35), 57343⟩,
      ⟨none, none, .store 3 (.t 36) (.t 32), 122879⟩])
    (.seq (.reg true [
      ⟨(some 37), none, .mv (.t 0), 0⟩,
      ⟨(some 38), none, .nchk (.t 37), 1⟩,
      ⟨(some 39), none, .fadr 4 (.t 38), 3⟩,
      ⟨(some 40), none, .fadr 3 (.t 39), 7⟩,
      ⟨(some 41), none, .load none (.t 40), 15⟩,
      ⟨(some 42), none, .fadr 3 (.t 4), 0⟩,
      ⟨(some 43), none, .load none (.t 42), 32⟩,
      ⟨(some 44), none, .fadr 3 (.t 8), 0⟩,
      ⟨(some 45), none, .load none (.t 44), 128⟩,
      ⟨(some 46), none, .iadr 1 (.t 41) (.t 43), 511⟩,
      ⟨none, none, .store 1 (.t 46) (.t 45), 1023⟩])
    (.seq (.reg true [
      ⟨(some 47), none, .mv (.t 0), 0⟩,
      ⟨(some 48), none, .mv (.t 0), 0⟩,
      ⟨(some 49), none, .nchk (.t 48), 2⟩,
      ⟨(some 50), none, .fadr 4 (.t 49), 6⟩,
      ⟨(some 51), none, .fadr 5 (.t 50), 14⟩,
      ⟨(some 52), none, .load none (.t 51), 30⟩,
      ⟨(some 53), none, .load (some 6) (.t 8), 0⟩,
      ⟨(some 54), none, .bslice 64 6 1 [.i .i64 (0), .i .i64 (0), .i .i64 (0), .i .i64 (0), .f .f64 0, .f .f64 0] [(0, 6, .t 53)], 64⟩,
      ⟨(some 55), none, .app 64 6 48 (.t 52) (.t 54), 254⟩,
      ⟨(some 56), none, .nchk (.t 47), 511⟩,
      ⟨(some 57), none, .fadr 4 (.t 56), 1023⟩,
      ⟨(some 58), none, .fadr 5 (.t 57), 2047⟩,
      ⟨none, none, .store 1 (.t 58) (.t 55), 4095⟩])
    (.seq (.reg false [
      ⟨(some 6), none, .mv (.k (.b true)), 0⟩,
      ⟨(some 7), none, .mv (.k (.i .i64 (0))), 0⟩])
    (.cut [6, 7] [] .ret))))))))⟩

theorem ok22 : okFn Tryd.prog 3 Tryd.f22 a22 = true := by kernel_rfl

/-- (*phasor/stab.Machine).reset -/
def a23 : AFn := ⟨3, 50, [.t 6, .t 7],
    .seq (.reg false [
      ⟨(some 4), none, .box true 42 (.t 1), 0⟩,
      ⟨(some 6), none, .mv (.k (.b false)), 0⟩,
      ⟨(some 7), none, .mv (.k (.i .i64 (0))), 0⟩])
    (.seq (.reg false [
      ⟨(some 11), none, .mv (.t 0), 0⟩,
      ⟨(some 12), none, .load (some 6) (.t 4), 0⟩,
      ⟨(some 13), none, .mv (.t 2), 0⟩,
      ⟨(some 14), none, .call 0 (.k (.fn (.func 38) [] [])) [.t 11, .t 12, .t 13], 0⟩,
      ⟨(some 10), none, .mv (.t 14), 0⟩,
      ⟨(some 15), none, .ext (.t 10) 0, 0⟩,
      ⟨(some 16), none, .ext (.t 10) 1, 0⟩,
      ⟨(some 8), none, .alloc true 64 [.i .i64 (0), .i .i64 (0), .i .i64 (0), .i .i64 (0), .f .f64 0, .f .f64 0], 0⟩,
      ⟨none, none, .store 6 (.t 8) (.t 15), 0⟩,
      ⟨(some 9), none, .mv (.t 16), 0⟩])
    (.seq (.seq (.reg false [
      ⟨(some 17), none, .mv (.t 9), 0⟩,
      ⟨(some 18), none, .bin .neq (.t 17) (.k (.i .i64 (0))), 0⟩])
    (.ite (.t 18) (.seq (.reg false [
      ⟨(some 19), none, .mv (.t 9), 0⟩,
      ⟨(some 6), none, .mv (.k (.b false)), 0⟩,
      ⟨(some 7), none, .mv (.t 19), 0⟩])
    (.cut [6, 7] [] .ret)) (.skip)))
    (.cut [0, 8] [8] (.seq (.reg false [
      ⟨(some 20), none, .fadr 2 (.t 8), 0⟩,
      ⟨none, none, .store 1 (.t 20) (.k (.i .i64 (-1))), 0⟩])
    (.seq (.reg true [
      ⟨(some 22), none, .mv (.t 0), 0⟩,
      ⟨(some 23), none, .mv (.t 0), 0⟩,
      ⟨(some 24), none, .nchk (.t 23), 2⟩,
      ⟨(some 25), none, .fadr 4 (.t 24), 6⟩,
      ⟨(some 26), none, .fadr 0 (.t 25), 14⟩,
      ⟨(some 27), none, .load (some 3) (.t 26), 30⟩,
      ⟨(some 28), none, .fadr 1 (.t 8), 0⟩,
      ⟨(some 29), none, .load none (.t 28), 64⟩,
      ⟨(some 30), none, .fadr 3 (.t 8), 0⟩,
      ⟨(some 31), none, .load none (.t 30), 256⟩,
      ⟨(some 32), none, .call 1 (.k (.fn (.func 40) [] [])) [.t 27, .t 29, .t 31], 1022⟩,
      ⟨(some 21), none, .mv (.t 32), 2046⟩,
      ⟨(some 33), none, .ext (.t 21) 0, 4094⟩,
      ⟨(some 34), none, .ext (.t 21) 1, 4094⟩,
      ⟨(some 35), none, .nchk (.t 22), 8191⟩,
      ⟨(some 36), none, .fadr 4 (.t 35), 24575⟩,
      ⟨(some 37), none, .fadr 0 (.t 36), 57343⟩,
      ⟨none, none, .store 3 (.t 37) (.t 33), 122879⟩])
    (.seq (.reg true [
      ⟨(some 38), none, .mv (.t 0), 0⟩,
      ⟨(some 39), none, .mv (.t 0), 0⟩,
      ⟨(some 40), none, .nchk (.t 39), 2⟩,
      ⟨(some 41), none, .fadr 4 (.t 40), 6⟩,
      ⟨(some 42), none, .fadr 5 (.t 41), 14⟩,
      ⟨(some 43), none, .load none (.t 42), 30⟩,
      ⟨(some 44), none, .load (some 6) (.t 8), 0⟩,
      ⟨(some 45), none, .bslice 64 6 1 [.i .i64 (0), .i .i64 (0), .i .i64 (0), .i .i64 (0), .f .f64 0, .f .f64 0] [(0, 6, .t 44)], 64⟩,
      ⟨(some 46), none, .app 64 6 48 (.t 43) (.t 45), 254⟩,
      ⟨(some 47), none, .nchk (.t 38), 511⟩,
      ⟨(some 48), none, .fadr 4 (.t 47), 1023⟩,
      ⟨(some 49), none, .fadr 5 (.t 48), 2047⟩,
      ⟨none, none, .store 1 (.t 49) (.t 46), 4095⟩])
    (.seq (.reg false [
      ⟨(some 6), none, .mv (.k (.b true)), 0⟩,
      ⟨(some 7), none, .mv (.k (.i .i64 (0))), 0⟩])
    (.cut [6, 7] [] .ret))))))))⟩

theorem ok23 : okFn Tryd.prog 3 Tryd.f23 a23 = true := by kernel_rfl

/-- (*phasor/stab.Machine).barrier -/
def a24 : AFn := ⟨3, 8, [.t 6, .t 7],
    .seq (.reg false [
      ⟨(some 4), none, .box true 42 (.t 1), 0⟩,
      ⟨(some 6), none, .mv (.k (.b false)), 0⟩,
      ⟨(some 7), none, .mv (.k (.i .i64 (0))), 0⟩])
    (.seq (.reg false [
      ⟨(some 6), none, .mv (.k (.b false)), 0⟩,
      ⟨(some 7), none, .mv (.k (.i .i64 (0))), 0⟩])
    (.cut [6, 7] [] .ret))⟩

theorem ok24 : okFn Tryd.prog 3 Tryd.f24 a24 = true := by kernel_rfl

/-- phasor/stab.own -/
def a25 : AFn := ⟨1, 12, [.cell 2 (some 3)],
    .seq (.reg false [
      ⟨(some 1), none, .box true 30 (.t 0), 0⟩,
      ⟨(some 2), none, .alloc true 30 [.i .i64 (0), .sl none 0 (.ex 0), .sl none 0 (.ex 0)], 0⟩])
    (.seq (.reg true [
      ⟨(some 3), none, .fadr 1 (.t 1), 0⟩,
      ⟨(some 4), none, .load none (.t 3), 1⟩,
      ⟨(some 5), none, .call 1 (.k (.fn (.func 41) [] [])) [.t 4], 3⟩,
      ⟨(some 6), none, .fadr 2 (.t 1), 0⟩,
      ⟨(some 7), none, .load none (.t 6), 8⟩,
      ⟨(some 8), none, .call 1 (.k (.fn (.func 41) [] [])) [.t 7], 31⟩,
      ⟨(some 9), none, .fadr 1 (.t 1), 31⟩,
      ⟨none, none, .store 1 (.t 9) (.t 5), 127⟩,
      ⟨(some 10), none, .fadr 2 (.t 1), 255⟩,
      ⟨none, none, .store 1 (.t 10) (.t 8), 511⟩])
    (.seq (.reg false [
      ⟨(some 11), none, .load (some 3) (.t 1), 0⟩,
      ⟨none, none, .store 3 (.t 2) (.t 11), 0⟩])
    (.cut [2] [2] .ret)))⟩

theorem ok25 : okFn Tryd.prog 3 Tryd.f25 a25 = true := by kernel_rfl

/-- slices.Clone[[]phasor/api.Outcome,phasor/api.Outcome] -/
def a26 : AFn := ⟨1, 8, [.t 2],
    .seq (.reg false [
      ⟨(some 2), none, .mv (.k (.sl none 0 (.ex 0))), 0⟩])
    (.seq (.seq (.reg false [
      ⟨(some 3), none, .mv (.t 0), 0⟩,
      ⟨(some 4), none, .eqnil false (.t 3), 0⟩])
    (.ite (.t 4) (.seq (.reg false [
      ⟨(some 2), none, .mv (.k (.sl none 0 (.ex 0))), 0⟩])
    (.cut [2] [] .ret)) (.skip)))
    (.cut [0] [] (.seq (.reg false [
      ⟨(some 5), none, .bslice 64 6 0 [] [], 0⟩,
      ⟨(some 6), none, .mv (.t 0), 0⟩,
      ⟨(some 7), none, .app 64 6 48 (.t 5) (.t 6), 0⟩,
      ⟨(some 2), none, .mv (.t 7), 0⟩])
    (.cut [2] [] .ret))))⟩

theorem ok26 : okFn Tryd.prog 3 Tryd.f26 a26 = true := by kernel_rfl

def a27L0 : AC :=
    .cut [1, 31, 32, 33] [1] (.seq (.reg false [
      ⟨(some 34), none, .bin .lss (.t 33) (.t 32), 0⟩])
    (.seq (.ite (.t 34) (.skip) (.cut [] [] (.exit 0)))
    (.cut [1, 31, 32, 33] [1] (.seq (.blk 1 (.seq (.reg false [
      ⟨(some 35), none, .mv (.t 33), 0⟩,
      ⟨(some 36), none, .iadr 6 (.t 31) (.t 33), 0⟩,
      ⟨(some 37), none, .load (some 6) (.t 36), 0⟩,
      ⟨(some 5), none, .alloc true 42 [.i .i64 (0), .i .i64 (0), .sl none 0 (.ex 0), .i .i64 (0), .i .i64 (0), .i .i64 (0)], 0⟩,
      ⟨(some 4), none, .mv (.t 35), 0⟩,
      ⟨none, none, .store 6 (.t 5) (.t 37), 0⟩])
    (.seq (.reg false [
      ⟨(some 38), none, .load (some 6) (.t 5), 0⟩,
      ⟨(some 39), none, .fadr 0 (.t 1), 0⟩,
      ⟨(some 40), none, .load none (.t 39), 0⟩,
      ⟨(some 41), none, .fadr 1 (.t 1), 0⟩,
      ⟨(some 42), none, .load none (.t 41), 0⟩,
      ⟨(some 43), none, .call 0 (.k (.fn (.func 42) [] [])) [.t 38, .t 40, .t 42], 0⟩,
      ⟨(some 44), none, .un .not (.t 43), 0⟩])
    (.ite (.t 44) (.seq (.reg false [
      ⟨(some 45), none, .mv (.t 4), 0⟩,
      ⟨(some 2), none, .mv (.t 45), 0⟩,
      ⟨(some 3), none, .mv (.k (.i .i64 (80))), 0⟩])
    (.cut [2, 3] [] .ret)) (.skip)))))
    (.cut [1, 31, 32, 33] [1] (.reg false [
      ⟨(some 46), none, .bin .add (.t 33) (.k (.i .i64 (1))), 0⟩,
      ⟨(some 33), none, .mv (.t 46), 0⟩]))))))
/-- phasor/circuit.Check -/
def a27 : AFn := ⟨1, 47, [.t 2, .t 3],
    .seq (.reg false [
      ⟨(some 1), none, .box true 27 (.t 0), 0⟩,
      ⟨(some 2), none, .mv (.k (.i .i64 (0))), 0⟩,
      ⟨(some 3), none, .mv (.k (.i .i64 (0))), 0⟩])
    (.seq (.seq (.reg false [
      ⟨(some 6), none, .fadr 0 (.t 1), 0⟩,
      ⟨(some 7), none, .load none (.t 6), 0⟩,
      ⟨(some 8), none, .bin .lss (.t 7) (.k (.i .i64 (0))), 0⟩,
      ⟨(some 9), none, .mv (.t 8), 0⟩,
      ⟨(some 10), (some (9, false)), .fadr 0 (.t 1), 0⟩,
      ⟨(some 11), (some (9, false)), .load none (.t 10), 0⟩,
      ⟨(some 12), (some (9, false)), .bin .gtr (.t 11) (.k (.i .i64 (64))), 0⟩,
      ⟨(some 13), none, .pick (.t 9) (.k (.b true)) (.t 12), 0⟩,
      ⟨(some 14), none, .mv (.t 13), 0⟩,
      ⟨(some 15), (some (14, false)), .fadr 1 (.t 1), 0⟩,
      ⟨(some 16), (some (14, false)), .load none (.t 15), 0⟩,
      ⟨(some 17), (some (14, false)), .bin .lss (.t 16) (.k (.i .i64 (0))), 0⟩,
      ⟨(some 18), none, .pick (.t 14) (.k (.b true)) (.t 17), 0⟩,
      ⟨(some 19), none, .mv (.t 18), 0⟩,
      ⟨(some 20), (some (19, false)), .fadr 1 (.t 1), 0⟩,
      ⟨(some 21), (some (19, false)), .load none (.t 20), 0⟩,
      ⟨(some 22), (some (19, false)), .bin .gtr (.t 21) (.k (.i .i64 (64))), 0⟩,
      ⟨(some 23), none, .pick (.t 19) (.k (.b true)) (.t 22), 0⟩,
      ⟨(some 24), none, .mv (.t 23), 0⟩,
      ⟨(some 25), (some (24, false)), .fadr 2 (.t 1), 0⟩,
      ⟨(some 26), (some (24, false)), .load none (.t 25), 0⟩,
      ⟨(some 27), (some (24, false)), .len false (.t 26), 0⟩,
      ⟨(some 28), (some (24, false)), .bin .gtr (.t 27) (.k (.i .i64 (4096))), 0⟩,
      ⟨(some 29), none, .pick (.t 24) (.k (.b true)) (.t 28), 0⟩])
    (.ite (.t 29) (.seq (.reg false [
      ⟨(some 2), none, .mv (.k (.i .i64 (-1))), 0⟩,
      ⟨(some 3), none, .mv (.k (.i .i64 (80))), 0⟩])
    (.cut [2, 3] [] .ret)) (.skip)))
    (.cut [1] [1] (.seq (.seq (.reg false [
      ⟨(some 30), none, .fadr 2 (.t 1), 0⟩,
      ⟨(some 31), none, .load none (.t 30), 0⟩,
      ⟨(some 32), none, .len false (.t 31), 0⟩,
      ⟨(some 33), none, .mv (.k (.i .i64 (0))), 0⟩])
    (.blk 0 (.loop a27L0)))
    (.cut [] [] (.seq (.reg false [
      ⟨(some 2), none, .mv (.k (.i .i64 (0))), 0⟩,
      ⟨(some 3), none, .mv (.k (.i .i64 (0))), 0⟩])
    (.cut [2, 3] [] .ret))))))⟩

theorem ok27 : okFn Tryd.prog 3 Tryd.f27 a27 = true := by kernel_rfl

/-- phasor/circuit.Clifford -/
def a28 : AFn := ⟨1, 7, [.t 2],
    .seq (.reg false [
      ⟨(some 1), none, .box true 27 (.t 0), 0⟩,
      ⟨(some 2), none, .mv (.k (.b false)), 0⟩])
    (.seq (.reg false [
      ⟨(some 3), none, .fadr 2 (.t 1), 0⟩,
      ⟨(some 4), none, .load none (.t 3), 0⟩,
      ⟨(some 5), none, .call 0 (.k (.fn (.func 43) [] [])) [.t 4, .k (.fn (.func 44) [] [])], 0⟩,
      ⟨(some 6), none, .un .not (.t 5), 0⟩,
      ⟨(some 2), none, .mv (.t 6), 0⟩])
    (.cut [2] [] .ret))⟩

theorem ok28 : okFn Tryd.prog 3 Tryd.f28 a28 = true := by kernel_rfl

def a29L0 : AC :=
    .cut [0, 2, 4, 15, 16] [2, 4] (.seq (.reg false [
      ⟨(some 17), none, .bin .lss (.t 16) (.t 15), 0⟩])
    (.seq (.ite (.t 17) (.skip) (.cut [2, 4] [2, 4] (.exit 0)))
    (.cut [0, 2, 4, 15, 16] [2, 4] (.seq (.blk 1 (.seq (.reg false [
      ⟨(some 18), none, .mv (.t 16), 0⟩,
      ⟨(some 5), none, .mv (.t 18), 0⟩])
    (.seq (.reg true [
      ⟨(some 19), none, .fadr 1 (.t 4), 0⟩,
      ⟨(some 20), none, .load none (.t 19), 1⟩,
      ⟨(some 21), none, .mv (.t 0), 0⟩,
      ⟨(some 22), none, .mv (.t 5), 0⟩,
      ⟨(some 23), none, .bin .shl (.k (.i .u64 (1))) (.t 22), 8⟩,
      ⟨(some 24), none, .build [.i .i64 (0), .i .u64 (0), .i .u64 (0), .i .i64 (0)] [(0, 1, .t 21), (2, 1, .t 23)], 28⟩,
      ⟨(some 25), none, .bslice 67 4 1 [.i .i64 (0), .i .u64 (0), .i .u64 (0), .i .i64 (0)] [(0, 4, .t 24)], 60⟩,
      ⟨(some 26), none, .app 67 4 32 (.t 20) (.t 25), 127⟩,
      ⟨(some 27), none, .fadr 1 (.t 4), 255⟩,
      ⟨none, none, .store 1 (.t 27) (.t 26), 511⟩])
    (.reg true [
      ⟨(some 28), none, .fadr 2 (.t 4), 0⟩,
      ⟨(some 29), none, .load none (.t 28), 1⟩,
      ⟨(some 30), none, .mv (.t 0), 0⟩,
      ⟨(some 31), none, .mv (.t 5), 0⟩,
      ⟨(some 32), none, .bin .shl (.k (.i .u64 (1))) (.t 31), 8⟩,
      ⟨(some 33), none, .build [.i .i64 (0), .i .u64 (0), .i .u64 (0), .i .i64 (0)] [(0, 1, .t 30), (1, 1, .t 32)], 28⟩,
      ⟨(some 34), none, .bslice 67 4 1 [.i .i64 (0), .i .u64 (0), .i .u64 (0), .i .i64 (0)] [(0, 4, .t 33)], 60⟩,
      ⟨(some 35), none, .app 67 4 32 (.t 29) (.t 34), 127⟩,
      ⟨(some 36), none, .fadr 2 (.t 4), 255⟩,
      ⟨none, none, .store 1 (.t 36) (.t 35), 511⟩]))))
    (.cut [0, 2, 4, 15, 16] [2, 4] (.reg false [
      ⟨(some 37), none, .bin .add (.t 16) (.k (.i .i64 (1))), 0⟩,
      ⟨(some 16), none, .mv (.t 37), 0⟩]))))))
/-- phasor/tableau.New -/
def a29 : AFn := ⟨1, 39, [.cell 2 (some 3), .t 3],
    .seq (.reg false [
      ⟨(some 2), none, .alloc true 30 [.i .i64 (0), .sl none 0 (.ex 0), .sl none 0 (.ex 0)], 0⟩,
      ⟨(some 3), none, .mv (.k (.i .i64 (0))), 0⟩])
    (.seq (.seq (.reg false [
      ⟨(some 6), none, .mv (.t 0), 0⟩,
      ⟨(some 7), none, .bin .lss (.t 6) (.k (.i .i64 (0))), 0⟩,
      ⟨(some 8), none, .mv (.t 7), 0⟩,
      ⟨(some 9), (some (8, false)), .mv (.t 0), 0⟩,
      ⟨(some 10), (some (8, false)), .bin .gtr (.t 9) (.k (.i .i64 (64))), 0⟩,
      ⟨(some 11), none, .pick (.t 8) (.k (.b true)) (.t 10), 0⟩])
    (.ite (.t 11) (.seq (.reg false [
      ⟨(some 12), none, .build [.i .i64 (0), .sl none 0 (.ex 0), .sl none 0 (.ex 0)] [], 0⟩,
      ⟨none, none, .store 3 (.t 2) (.t 12), 0⟩,
      ⟨(some 3), none, .mv (.k (.i .i64 (2))), 0⟩])
    (.cut [2, 3] [2] .ret)) (.skip)))
    (.cut [0, 2] [2] (.seq (.reg false [
      ⟨(some 13), none, .mv (.t 0), 0⟩,
      ⟨(some 14), none, .build [.i .i64 (0), .sl none 0 (.ex 0), .sl none 0 (.ex 0)] [(0, 1, .t 13)], 0⟩,
      ⟨(some 4), none, .alloc true 30 [.i .i64 (0), .sl none 0 (.ex 0), .sl none 0 (.ex 0)], 0⟩,
      ⟨none, none, .store 3 (.t 4) (.t 14), 0⟩])
    (.seq (.seq (.reg false [
      ⟨(some 15), none, .mv (.t 0), 0⟩,
      ⟨(some 16), none, .mv (.k (.i .i64 (0))), 0⟩])
    (.blk 0 (.loop a29L0)))
    (.cut [2, 4] [2, 4] (.seq (.reg false [
      ⟨(some 38), none, .load (some 3) (.t 4), 0⟩,
      ⟨none, none, .store 3 (.t 2) (.t 38), 0⟩,
      ⟨(some 3), none, .mv (.k (.i .i64 (0))), 0⟩])
    (.cut [2, 3] [2] .ret)))))))⟩

theorem ok29 : okFn Tryd.prog 3 Tryd.f29 a29 = true := by kernel_rfl

def a30L0 : AC :=
    .cut [2, 3, 12, 13, 14] [2, 3] (.seq (.reg false [
      ⟨(some 15), none, .bin .lss (.t 14) (.t 13), 0⟩])
    (.seq (.ite (.t 15) (.skip) (.cut [2, 3] [2, 3] (.exit 0)))
    (.cut [2, 3, 12, 13, 14] [2, 3] (.seq (.blk 1 (.seq (.reg false [
      ⟨(some 16), none, .iadr 6 (.t 12) (.t 14), 0⟩,
      ⟨(some 17), none, .load (some 6) (.t 16), 0⟩,
      ⟨(some 5), none, .alloc true 42 [.i .i64 (0), .i .i64 (0), .sl none 0 (.ex 0), .i .i64 (0), .i .i64 (0), .i .i64 (0)], 0⟩,
      ⟨none, none, .store 6 (.t 5) (.t 17), 0⟩])
    (.seq (.reg false [
      ⟨(some 18), none, .fadr 2 (.t 5), 0⟩,
      ⟨(some 19), none, .load none (.t 18), 0⟩,
      ⟨(some 20), none, .call 1 (.k (.fn (.func 20) [] [])) [.t 19], 0⟩,
      ⟨(some 21), none, .fadr 2 (.t 5), 0⟩,
      ⟨none, none, .store 1 (.t 21) (.t 20), 0⟩])
    (.reg false [
      ⟨(some 22), none, .fadr 2 (.t 3), 0⟩,
      ⟨(some 23), none, .load none (.t 22), 0⟩,
      ⟨(some 24), none, .load (some 6) (.t 5), 0⟩,
      ⟨(some 25), none, .bslice 42 6 1 [.i .i64 (0), .i .i64 (0), .sl none 0 (.ex 0), .i .i64 (0), .i .i64 (0), .i .i64 (0)] [(0, 6, .t 24)], 0⟩,
      ⟨(some 26), none, .app 42 6 64 (.t 23) (.t 25), 0⟩,
      ⟨(some 27), none, .fadr 2 (.t 3), 0⟩,
      ⟨none, none, .store 1 (.t 27) (.t 26), 0⟩]))))
    (.cut [2, 3, 12, 13, 14] [2, 3] (.reg false [
      ⟨(some 28), none, .bin .add (.t 14) (.k (.i .i64 (1))), 0⟩,
      ⟨(some 14), none, .mv (.t 28), 0⟩]))))))
/-- phasor/circuit.Copy -/
def a30 : AFn := ⟨1, 30, [.cell 2 (some 3)],
    .seq (.reg false [
      ⟨(some 1), none, .box true 27 (.t 0), 0⟩,
      ⟨(some 2), none, .alloc true 27 [.i .i64 (0), .i .i64 (0), .sl none 0 (.ex 0)], 0⟩])
    (.seq (.reg false [
      ⟨(some 6), none, .fadr 0 (.t 1), 0⟩,
      ⟨(some 7), none, .load none (.t 6), 0⟩,
      ⟨(some 8), none, .fadr 1 (.t 1), 0⟩,
      ⟨(some 9), none, .load none (.t 8), 0⟩,
      ⟨(some 10), none, .build [.i .i64 (0), .i .i64 (0), .sl none 0 (.ex 0)] [(0, 1, .t 7), (1, 1, .t 9)], 0⟩,
      ⟨(some 3), none, .alloc true 27 [.i .i64 (0), .i .i64 (0), .sl none 0 (.ex 0)], 0⟩,
      ⟨none, none, .store 3 (.t 3) (.t 10), 0⟩])
    (.seq (.seq (.reg false [
      ⟨(some 11), none, .fadr 2 (.t 1), 0⟩,
      ⟨(some 12), none, .load none (.t 11), 0⟩,
      ⟨(some 13), none, .len false (.t 12), 0⟩,
      ⟨(some 14), none, .mv (.k (.i .i64 (0))), 0⟩])
    (.blk 0 (.loop a30L0)))
    (.cut [2, 3] [2, 3] (.seq (.reg false [
      ⟨(some 29), none, .load (some 3) (.t 3), 0⟩,
      ⟨none, none, .store 3 (.t 2) (.t 29), 0⟩])
    (.cut [2] [2] .ret)))))⟩

theorem ok30 : okFn Tryd.prog 3 Tryd.f30 a30 = true := by kernel_rfl

def a31L0 : AC :=
    .cut [1, 33, 34, 47, 48, 49] [1] (.seq (.reg false [
      ⟨(some 50), none, .bin .lss (.t 49) (.t 48), 0⟩])
    (.seq (.ite (.t 50) (.skip) (.cut [1, 33, 34] [1] (.exit 2)))
    (.cut [1, 33, 34, 47, 48, 49] [1] (.seq (.blk 3 (.seq (.reg false [
      ⟨(some 51), none, .iadr 4 (.t 47) (.t 49), 0⟩,
      ⟨(some 52), none, .load (some 4) (.t 51), 0⟩,
      ⟨(some 5), none, .alloc true 67 [.i .i64 (0), .i .u64 (0), .i .u64 (0), .i .i64 (0)], 0⟩,
      ⟨none, none, .store 4 (.t 5) (.t 52), 0⟩])
    (.seq (.reg false [
      ⟨(some 53), none, .fadr 0 (.t 5), 0⟩,
      ⟨(some 54), none, .load none (.t 53), 0⟩,
      ⟨(some 55), none, .fadr 0 (.t 1), 0⟩,
      ⟨(some 56), none, .load none (.t 55), 0⟩,
      ⟨(some 57), none, .bin .neq (.t 54) (.t 56), 0⟩,
      ⟨(some 58), none, .mv (.t 57), 0⟩,
      ⟨(some 59), (some (58, false)), .load (some 4) (.t 5), 0⟩,
      ⟨(some 60), (some (58, false)), .call 0 (.k (.fn (.func 46) [] [])) [.t 59], 0⟩,
      ⟨(some 61), (some (58, false)), .un .not (.t 60), 0⟩,
      ⟨(some 62), none, .pick (.t 58) (.k (.b true)) (.t 61), 0⟩])
    (.ite (.t 62) (.seq (.reg false [
      ⟨(some 2), none, .mv (.k (.i .i64 (140))), 0⟩])
    (.cut [2] [] .ret)) (.skip)))))
    (.cut [1, 33, 34, 47, 48, 49] [1] (.reg false [
      ⟨(some 63), none, .bin .add (.t 49) (.k (.i .i64 (1))), 0⟩,
      ⟨(some 49), none, .mv (.t 63), 0⟩]))))))
def a31L1 : AC :=
    .cut [1, 33, 34] [1] (.seq (.reg false [
      ⟨(some 35), none, .bin .lss (.t 34) (.t 33), 0⟩])
    (.seq (.ite (.t 35) (.skip) (.cut [1] [1] (.exit 0)))
    (.cut [1, 33, 34] [1] (.seq (.blk 1 (.seq (.reg false [
      ⟨(some 36), none, .mv (.t 34), 0⟩,
      ⟨(some 3), none, .mv (.t 36), 0⟩])
    (.seq (.reg true [
      ⟨(some 37), none, .fadr 1 (.t 1), 0⟩,
      ⟨(some 38), none, .load none (.t 37), 1⟩,
      ⟨(some 39), none, .mv (.t 3), 0⟩,
      ⟨(some 40), none, .iadr 4 (.t 38) (.t 39), 7⟩,
      ⟨(some 41), none, .load (some 4) (.t 40), 15⟩,
      ⟨(some 42), none, .fadr 2 (.t 1), 0⟩,
      ⟨(some 43), none, .load none (.t 42), 32⟩,
      ⟨(some 44), none, .mv (.t 3), 0⟩,
      ⟨(some 45), none, .iadr 4 (.t 43) (.t 44), 224⟩,
      ⟨(some 46), none, .load (some 4) (.t 45), 480⟩,
      ⟨(some 47), none, .bslice 67 4 2 [.i .i64 (0), .i .u64 (0), .i .u64 (0), .i .i64 (0), .i .i64 (0), .i .u64 (0), .i .u64 (0), .i .i64 (0)] [(0, 4, .t 41), (4, 4, .t 46)], 1023⟩,
      ⟨(some 48), none, .len false (.t 47), 2047⟩,
      ⟨(some 49), none, .mv (.k (.i .i64 (0))), 0⟩])
    (.blk 2 (.loop a31L0)))))
    (.cut [1, 33, 34] [1] (.reg false [
      ⟨(some 64), none, .bin .add (.t 34) (.k (.i .i64 (1))), 0⟩,
      ⟨(some 34), none, .mv (.t 64), 0⟩]))))))
def a31L2 : AC :=
    .cut [1, 6, 66, 67, 71, 72] [1] (.seq (.reg false [
      ⟨(some 73), none, .bin .lss (.t 72) (.t 71), 0⟩])
    (.seq (.ite (.t 73) (.skip) (.cut [1, 66, 67] [1] (.exit 6)))
    (.cut [1, 6, 66, 67, 71, 72] [1] (.seq (.blk 7 (.seq (.reg false [
      ⟨(some 74), none, .mv (.t 72), 0⟩,
      ⟨(some 7), none, .mv (.t 74), 0⟩])
    (.seq (.reg true [
      ⟨(some 75), none, .fadr 1 (.t 1), 0⟩,
      ⟨(some 76), none, .load none (.t 75), 1⟩,
      ⟨(some 77), none, .mv (.t 6), 0⟩,
      ⟨(some 78), none, .iadr 4 (.t 76) (.t 77), 7⟩,
      ⟨(some 79), none, .load (some 4) (.t 78), 15⟩,
      ⟨(some 80), none, .fadr 1 (.t 1), 0⟩,
      ⟨(some 81), none, .load none (.t 80), 32⟩,
      ⟨(some 82), none, .mv (.t 7), 0⟩,
      ⟨(some 83), none, .iadr 4 (.t 81) (.t 82), 224⟩,
      ⟨(some 84), none, .load (some 4) (.t 83), 480⟩,
      ⟨(some 85), none, .call 0 (.k (.fn (.func 47) [] [])) [.t 79, .t 84], 1023⟩,
      ⟨(some 86), none, .un .not (.t 85), 2047⟩,
      ⟨(some 87), none, .mv (.t 86), 4095⟩,
      ⟨(some 88), (some (87, false)), .fadr 2 (.t 1), 8191⟩,
      ⟨(some 89), (some (87, false)), .load none (.t 88), 16383⟩,
      ⟨(some 90), (some (87, false)), .mv (.t 6), 8191⟩,
      ⟨(some 91), (some (87, false)), .iadr 4 (.t 89) (.t 90), 65535⟩,
      ⟨(some 92), (some (87, false)), .load (some 4) (.t 91), 131071⟩,
      ⟨(some 93), (some (87, false)), .fadr 2 (.t 1), 8191⟩,
      ⟨(some 94), (some (87, false)), .load none (.t 93), 270335⟩,
      ⟨(some 95), (some (87, false)), .mv (.t 7), 8191⟩,
      ⟨(some 96), (some (87, false)), .iadr 4 (.t 94) (.t 95), 1843199⟩,
      ⟨(some 97), (some (87, false)), .load (some 4) (.t 96), 3940351⟩,
      ⟨(some 98), (some (87, false)), .call 0 (.k (.fn (.func 47) [] [])) [.t 92, .t 97], 8388607⟩,
      ⟨(some 99), (some (87, false)), .un .not (.t 98), 16777215⟩,
      ⟨(some 100), none, .pick (.t 87) (.k (.b true)) (.t 99), 33554431⟩,
      ⟨(some 101), none, .mv (.t 100), 67108863⟩,
      ⟨(some 102), (some (101, false)), .fadr 2 (.t 1), 134217727⟩,
      ⟨(some 103), (some (101, false)), .load none (.t 102), 268435455⟩,
      ⟨(some 104), (some (101, false)), .mv (.t 6), 134217727⟩,
      ⟨(some 105), (some (101, false)), .iadr 4 (.t 103) (.t 104), 1073741823⟩,
      ⟨(some 106), (some (101, false)), .load (some 4) (.t 105), 2147483647⟩,
      ⟨(some 107), (some (101, false)), .fadr 1 (.t 1), 134217727⟩,
      ⟨(some 108), (some (101, false)), .load none (.t 107), 4429185023⟩,
      ⟨(some 109), (some (101, false)), .mv (.t 7), 134217727⟩,
      ⟨(some 110), (some (101, false)), .iadr 4 (.t 108) (.t 109), 30198988799⟩,
      ⟨(some 111), (some (101, false)), .load (some 4) (.t 110), 64558727167⟩,
      ⟨(some 112), (some (101, false)), .call 0 (.k (.fn (.func 47) [] [])) [.t 106, .t 111], 137438953471⟩,
      ⟨(some 113), (some (101, false)), .mv (.t 6), 134217727⟩,
      ⟨(some 114), (some (101, false)), .mv (.t 7), 134217727⟩,
      ⟨(some 115), (some (101, false)), .bin .eql (.t 113) (.t 114), 824767938559⟩,
      ⟨(some 116), (some (101, false)), .eqb false (.t 112) (.t 115), 2199023255551⟩,
      ⟨(some 117), none, .pick (.t 101) (.k (.b true)) (.t 116), 4398046511103⟩])
    (.ite (.t 117) (.seq (.reg false [
      ⟨(some 2), none, .mv (.k (.i .i64 (140))), 0⟩])
    (.cut [2] [] .ret)) (.skip)))))
    (.cut [1, 6, 66, 67, 71, 72] [1] (.reg false [
      ⟨(some 118), none, .bin .add (.t 72) (.k (.i .i64 (1))), 0⟩,
      ⟨(some 72), none, .mv (.t 118), 0⟩]))))))
def a31L3 : AC :=
    .cut [1, 66, 67] [1] (.seq (.reg false [
      ⟨(some 68), none, .bin .lss (.t 67) (.t 66), 0⟩])
    (.seq (.ite (.t 68) (.skip) (.cut [] [] (.exit 4)))
    (.cut [1, 66, 67] [1] (.seq (.blk 5 (.seq (.reg false [
      ⟨(some 69), none, .mv (.t 67), 0⟩,
      ⟨(some 6), none, .mv (.t 69), 0⟩])
    (.seq (.reg false [
      ⟨(some 70), none, .fadr 0 (.t 1), 0⟩,
      ⟨(some 71), none, .load none (.t 70), 0⟩,
      ⟨(some 72), none, .mv (.k (.i .i64 (0))), 0⟩])
    (.blk 6 (.loop a31L2)))))
    (.cut [1, 66, 67] [1] (.reg false [
      ⟨(some 119), none, .bin .add (.t 67) (.k (.i .i64 (1))), 0⟩,
      ⟨(some 67), none, .mv (.t 119), 0⟩]))))))
/-- phasor/tableau.Check -/
def a31 : AFn := ⟨1, 120, [.t 2],
    .seq (.reg false [
      ⟨(some 1), none, .box true 30 (.t 0), 0⟩,
      ⟨(some 2), none, .mv (.k (.i .i64 (0))), 0⟩])
    (.seq (.seq (.reg false [
      ⟨(some 8), none, .fadr 0 (.t 1), 0⟩,
      ⟨(some 9), none, .load none (.t 8), 0⟩,
      ⟨(some 10), none, .bin .lss (.t 9) (.k (.i .i64 (0))), 0⟩,
      ⟨(some 11), none, .mv (.t 10), 0⟩,
      ⟨(some 12), (some (11, false)), .fadr 0 (.t 1), 0⟩,
      ⟨(some 13), (some (11, false)), .load none (.t 12), 0⟩,
      ⟨(some 14), (some (11, false)), .bin .gtr (.t 13) (.k (.i .i64 (64))), 0⟩,
      ⟨(some 15), none, .pick (.t 11) (.k (.b true)) (.t 14), 0⟩,
      ⟨(some 16), none, .mv (.t 15), 0⟩,
      ⟨(some 17), (some (16, false)), .fadr 1 (.t 1), 0⟩,
      ⟨(some 18), (some (16, false)), .load none (.t 17), 0⟩,
      ⟨(some 19), (some (16, false)), .len false (.t 18), 0⟩,
      ⟨(some 20), (some (16, false)), .fadr 0 (.t 1), 0⟩,
      ⟨(some 21), (some (16, false)), .load none (.t 20), 0⟩,
      ⟨(some 22), (some (16, false)), .bin .neq (.t 19) (.t 21), 0⟩,
      ⟨(some 23), none, .pick (.t 16) (.k (.b true)) (.t 22), 0⟩,
      ⟨(some 24), none, .mv (.t 23), 0⟩,
      ⟨(some 25), (some (24, false)), .fadr 2 (.t 1), 0⟩,
      ⟨(some 26), (some (24, false)), .load none (.t 25), 0⟩,
      ⟨(some 27), (some (24, false)), .len false (.t 26), 0⟩,
      ⟨(some 28), (some (24, false)), .fadr 0 (.t 1), 0⟩,
      ⟨(some 29), (some (24, false)), .load none (.t 28), 0⟩,
      ⟨(some 30), (some (24, false)), .bin .neq (.t 27) (.t 29), 0⟩,
      ⟨(some 31), none, .pick (.t 24) (.k (.b true)) (.t 30), 0⟩])
    (.ite (.t 31) (.seq (.reg false [
      ⟨(some 2), none, .mv (.k (.i .i64 (140))), 0⟩])
    (.cut [2] [] .ret)) (.skip)))
    (.cut [1] [1] (.seq (.seq (.reg false [
      ⟨(some 32), none, .fadr 0 (.t 1), 0⟩,
      ⟨(some 33), none, .load none (.t 32), 0⟩,
      ⟨(some 34), none, .mv (.k (.i .i64 (0))), 0⟩])
    (.blk 0 (.loop a31L1)))
    (.cut [1] [1] (.seq (.seq (.reg false [
      ⟨(some 65), none, .fadr 0 (.t 1), 0⟩,
      ⟨(some 66), none, .load none (.t 65), 0⟩,
      ⟨(some 67), none, .mv (.k (.i .i64 (0))), 0⟩])
    (.blk 4 (.loop a31L3)))
    (.cut [] [] (.seq (.reg false [
      ⟨(some 2), none, .mv (.k (.i .i64 (0))), 0⟩])
    (.cut [2] [] .ret))))))))⟩

theorem ok31 : okFn Tryd.prog 3 Tryd.f31 a31 = true := by kernel_rfl

/-- phasor/state.Basis -/
def a32 : AFn := ⟨2, 30, [.t 4, .t 5],
    .seq (.reg false [
      ⟨(some 4), none, .mv (.k (.sl none 0 (.ex 0))), 0⟩,
      ⟨(some 5), none, .mv (.k (.i .i64 (0))), 0⟩])
    (.seq (.seq (.reg false [
      ⟨(some 7), none, .mv (.t 0), 0⟩,
      ⟨(some 8), none, .bin .lss (.t 7) (.k (.i .i64 (0))), 0⟩,
      ⟨(some 9), none, .mv (.t 8), 0⟩,
      ⟨(some 10), (some (9, false)), .mv (.t 0), 0⟩,
      ⟨(some 11), (some (9, false)), .bin .gtr (.t 10) (.k (.i .i64 (12))), 0⟩,
      ⟨(some 12), none, .pick (.t 9) (.k (.b true)) (.t 11), 0⟩,
      ⟨(some 13), none, .mv (.t 12), 0⟩,
      ⟨(some 14), (some (13, false)), .mv (.t 1), 0⟩,
      ⟨(some 15), (some (13, false)), .bin .lss (.t 14) (.k (.i .i64 (0))), 0⟩,
      ⟨(some 16), none, .pick (.t 13) (.k (.b true)) (.t 15), 0⟩,
      ⟨(some 17), none, .mv (.t 16), 0⟩,
      ⟨(some 18), (some (17, false)), .mv (.t 1), 0⟩,
      ⟨(some 19), (some (17, false)), .mv (.t 0), 0⟩,
      ⟨(some 20), (some (17, false)), .bin .shl (.k (.i .i64 (1))) (.t 19), 0⟩,
      ⟨(some 21), (some (17, false)), .bin .geq (.t 18) (.t 20), 0⟩,
      ⟨(some 22), none, .pick (.t 17) (.k (.b true)) (.t 21), 0⟩])
    (.ite (.t 22) (.seq (.reg false [
      ⟨(some 4), none, .mv (.k (.sl none 0 (.ex 0))), 0⟩,
      ⟨(some 5), none, .mv (.k (.i .i64 (90))), 0⟩])
    (.cut [4, 5] [] .ret)) (.skip)))
    (.cut [0, 1] [] (.seq (.reg false [
      ⟨(some 23), none, .mv (.t 0), 0⟩,
      ⟨(some 24), none, .bin .shl (.k (.i .i64 (1))) (.t 23), 0⟩,
      ⟨(some 25), none, .mks 68 1 16 [.c .f64 0 0] (.t 24) (.t 24), 0⟩,
      ⟨(some 6), none, .mv (.t 25), 0⟩])
    (.seq (.reg false [
      ⟨(some 26), none, .mv (.t 6), 0⟩,
      ⟨(some 27), none, .mv (.t 1), 0⟩,
      ⟨(some 28), none, .iadr 1 (.t 26) (.t 27), 0⟩,
      ⟨none, none, .store 1 (.t 28) (.k (.c .f64 4607182418800017408 0)), 0⟩])
    (.seq (.reg false [
      ⟨(some 29), none, .mv (.t 6), 0⟩,
      ⟨(some 4), none, .mv (.t 29), 0⟩,
      ⟨(some 5), none, .mv (.k (.i .i64 (0))), 0⟩])
    (.cut [4, 5] [] .ret))))))⟩

theorem ok32 : okFn Tryd.prog 3 Tryd.f32 a32 = true := by kernel_rfl

def a33L0 : AC :=
    .cut [2, 8, 31, 32, 33] [2] (.seq (.reg false [
      ⟨(some 34), none, .bin .lss (.t 33) (.t 32), 0⟩])
    (.seq (.ite (.t 34) (.skip) (.cut [8] [] (.exit 0)))
    (.cut [2, 8, 31, 32, 33] [2] (.seq (.blk 1 (.seq (.reg false [
      ⟨(some 35), none, .mv (.t 33), 0⟩,
      ⟨(some 36), none, .iadr 1 (.t 31) (.t 33), 0⟩,
      ⟨(some 37), none, .load none (.t 36), 0⟩,
      ⟨(some 9), none, .mv (.t 35), 0⟩,
      ⟨(some 10), none, .mv (.t 37), 0⟩])
    (.seq (.reg true [
      ⟨(some 38), none, .fadr 3 (.t 2), 0⟩,
      ⟨(some 39), none, .load none (.t 38), 1⟩,
      ⟨(some 40), none, .fadr 1 (.t 2), 0⟩,
      ⟨(some 41), none, .load none (.t 40), 4⟩,
      ⟨(some 42), none, .fadr 2 (.t 2), 0⟩,
      ⟨(some 43), none, .load none (.t 42), 16⟩,
      ⟨(some 44), none, .bin .and (.t 41) (.t 43), 60⟩,
      ⟨(some 45), none, .call 0 (.k (.fn (.func 50) [] [])) [.t 44], 124⟩,
      ⟨(some 46), none, .bin .add (.t 39) (.t 45), 255⟩,
      ⟨(some 47), none, .mv (.t 9), 0⟩,
      ⟨(some 48), none, .conv .u64 (.t 47), 512⟩,
      ⟨(some 49), none, .fadr 2 (.t 2), 0⟩,
      ⟨(some 50), none, .load none (.t 49), 2048⟩,
      ⟨(some 51), none, .bin .and (.t 48) (.t 50), 7680⟩,
      ⟨(some 52), none, .call 0 (.k (.fn (.func 50) [] [])) [.t 51], 16124⟩,
      ⟨(some 53), none, .bin .mul (.k (.i .i64 (2))) (.t 52), 32508⟩,
      ⟨(some 54), none, .bin .add (.t 46) (.t 53), 65535⟩,
      ⟨(some 11), none, .mv (.t 54), 131071⟩])
    (.reg true [
      ⟨(some 55), none, .mv (.t 8), 0⟩,
      ⟨(some 56), none, .mv (.t 9), 0⟩,
      ⟨(some 57), none, .fadr 1 (.t 2), 0⟩,
      ⟨(some 58), none, .load none (.t 57), 4⟩,
      ⟨(some 59), none, .conv .i64 (.t 58), 12⟩,
      ⟨(some 60), none, .bin .xor (.t 56) (.t 59), 30⟩,
      ⟨(some 61), none, .mv (.t 10), 0⟩,
      ⟨(some 62), none, .mv (.t 11), 0⟩,
      ⟨(some 63), none, .call 0 (.k (.fn (.func 52) [] [])) [.t 61, .t 62], 192⟩,
      ⟨(some 64), none, .call 0 (.k (.fn (.func 51) [] [])) [.t 63], 448⟩,
      ⟨(some 65), none, .iadr 1 (.t 55) (.t 60), 1023⟩,
      ⟨none, none, .store 1 (.t 65) (.t 64), 2047⟩]))))
    (.cut [2, 8, 31, 32, 33] [2] (.reg false [
      ⟨(some 66), none, .bin .add (.t 33) (.k (.i .i64 (1))), 0⟩,
      ⟨(some 33), none, .mv (.t 66), 0⟩]))))))
/-- phasor/pauli.Act -/
def a33 : AFn := ⟨2, 68, [.t 4, .t 5],
    .seq (.reg false [
      ⟨(some 2), none, .box true 67 (.t 0), 0⟩,
      ⟨(some 4), none, .mv (.k (.sl none 0 (.ex 0))), 0⟩,
      ⟨(some 5), none, .mv (.k (.i .i64 (0))), 0⟩])
    (.seq (.reg false [
      ⟨(some 13), none, .mv (.t 1), 0⟩,
      ⟨(some 14), none, .call 0 (.k (.fn (.func 48) [] [])) [.t 13], 0⟩,
      ⟨(some 12), none, .mv (.t 14), 0⟩,
      ⟨(some 15), none, .ext (.t 12) 0, 0⟩,
      ⟨(some 16), none, .ext (.t 12) 1, 0⟩,
      ⟨(some 6), none, .mv (.t 15), 0⟩,
      ⟨(some 7), none, .mv (.t 16), 0⟩])
    (.seq (.seq (.reg false [
      ⟨(some 17), none, .mv (.t 7), 0⟩,
      ⟨(some 18), none, .bin .neq (.t 17) (.k (.i .i64 (0))), 0⟩])
    (.ite (.t 18) (.seq (.reg false [
      ⟨(some 4), none, .mv (.k (.sl none 0 (.ex 0))), 0⟩,
      ⟨(some 5), none, .mv (.k (.i .i64 (90))), 0⟩])
    (.cut [4, 5] [] .ret)) (.skip)))
    (.cut [1, 2, 6] [2] (.seq (.seq (.reg false [
      ⟨(some 19), none, .load (some 4) (.t 2), 0⟩,
      ⟨(some 20), none, .call 0 (.k (.fn (.func 49) [] [])) [.t 19], 0⟩,
      ⟨(some 21), none, .un .not (.t 20), 0⟩,
      ⟨(some 22), none, .mv (.t 21), 0⟩,
      ⟨(some 23), (some (22, false)), .fadr 0 (.t 2), 0⟩,
      ⟨(some 24), (some (22, false)), .load none (.t 23), 0⟩,
      ⟨(some 25), (some (22, false)), .mv (.t 6), 0⟩,
      ⟨(some 26), (some (22, false)), .bin .neq (.t 24) (.t 25), 0⟩,
      ⟨(some 27), none, .pick (.t 22) (.k (.b true)) (.t 26), 0⟩])
    (.ite (.t 27) (.seq (.reg false [
      ⟨(some 4), none, .mv (.k (.sl none 0 (.ex 0))), 0⟩,
      ⟨(some 5), none, .mv (.k (.i .i64 (130))), 0⟩])
    (.cut [4, 5] [] .ret)) (.skip)))
    (.cut [1, 2] [2] (.seq (.reg false [
      ⟨(some 28), none, .mv (.t 1), 0⟩,
      ⟨(some 29), none, .len false (.t 28), 0⟩,
      ⟨(some 30), none, .mks 68 1 16 [.c .f64 0 0] (.t 29) (.t 29), 0⟩,
      ⟨(some 8), none, .mv (.t 30), 0⟩])
    (.seq (.seq (.reg false [
      ⟨(some 31), none, .mv (.t 1), 0⟩,
      ⟨(some 32), none, .len false (.t 31), 0⟩,
      ⟨(some 33), none, .mv (.k (.i .i64 (0))), 0⟩])
    (.blk 0 (.loop a33L0)))
    (.cut [8] [] (.seq (.reg false [
      ⟨(some 67), none, .mv (.t 8), 0⟩,
      ⟨(some 4), none, .mv (.t 67), 0⟩,
      ⟨(some 5), none, .mv (.k (.i .i64 (0))), 0⟩])
    (.cut [4, 5] [] .ret))))))))))⟩

theorem ok33 : okFn Tryd.prog 3 Tryd.f33 a33 = true := by kernel_rfl

/-- phasor/plane.Add -/
def a34 : AFn := ⟨2, 16, [.t 4],
    .seq (.reg false [
      ⟨(some 4), none, .mv (.k (.c .f64 0 0)), 0⟩])
    (.seq (.reg false [
      ⟨(some 5), none, .mv (.t 0), 0⟩,
      ⟨(some 6), none, .pop .re [.t 5], 0⟩,
      ⟨(some 7), none, .mv (.t 1), 0⟩,
      ⟨(some 8), none, .pop .re [.t 7], 0⟩,
      ⟨(some 9), none, .pop (.fbin .add) [.t 6, .t 8], 0⟩,
      ⟨(some 10), none, .mv (.t 0), 0⟩,
      ⟨(some 11), none, .pop .im [.t 10], 0⟩,
      ⟨(some 12), none, .mv (.t 1), 0⟩,
      ⟨(some 13), none, .pop .im [.t 12], 0⟩,
      ⟨(some 14), none, .pop (.fbin .add) [.t 11, .t 13], 0⟩,
      ⟨(some 15), none, .pop .mk [.t 9, .t 14], 0⟩,
      ⟨(some 4), none, .mv (.t 15), 0⟩])
    (.cut [4] [] .ret))⟩

theorem ok34 : okFn Tryd.prog 3 Tryd.f34 a34 = true := by kernel_rfl

/-- slices.ContainsFunc[[]complex128,complex128] -/
def a35 : AFn := ⟨2, 9, [.t 4],
    .seq (.reg false [
      ⟨(some 4), none, .mv (.k (.b false)), 0⟩])
    (.seq (.reg false [
      ⟨(some 5), none, .mv (.t 0), 0⟩,
      ⟨(some 6), none, .mv (.t 1), 0⟩,
      ⟨(some 7), none, .call 0 (.k (.fn (.func 53) [] [])) [.t 5, .t 6], 0⟩,
      ⟨(some 8), none, .bin .geq (.t 7) (.k (.i .i64 (0))), 0⟩,
      ⟨(some 4), none, .mv (.t 8), 0⟩])
    (.cut [4] [] .ret))⟩

theorem ok35 : okFn Tryd.prog 3 Tryd.f35 a35 = true := by kernel_rfl

/-- phasor/stab.State$1 -/
def a36 : AFn := ⟨1, 5, [.t 2],
    .seq (.reg false [
      ⟨(some 2), none, .mv (.k (.b false)), 0⟩])
    (.seq (.reg false [
      ⟨(some 3), none, .mv (.t 0), 0⟩,
      ⟨(some 4), none, .pop (.ceq true) [.t 3, .k (.c .f64 0 0)], 0⟩,
      ⟨(some 2), none, .mv (.t 4), 0⟩])
    (.cut [2] [] .ret))⟩

theorem ok36 : okFn Tryd.prog 3 Tryd.f36 a36 = true := by kernel_rfl

/-- phasor/tableau.Gate -/
def a37 : AFn := ⟨3, 43, [.cell 6 (some 3), .t 7],
    .seq (.reg false [
      ⟨(some 3), none, .box true 30 (.t 0), 0⟩,
      ⟨(some 4), none, .box false 40 (.t 1), 0⟩,
      ⟨(some 5), none, .box false 31 (.t 2), 0⟩,
      ⟨(some 6), none, .alloc true 30 [.i .i64 (0), .sl none 0 (.ex 0), .sl none 0 (.ex 0)], 0⟩,
      ⟨(some 7), none, .mv (.k (.i .i64 (0))), 0⟩])
    (.seq (.seq (.reg false [
      ⟨(some 12), none, .load (some 3) (.t 3), 0⟩,
      ⟨(some 13), none, .call 0 (.k (.fn (.func 31) [] [])) [.t 12], 0⟩,
      ⟨(some 8), none, .mv (.t 13), 0⟩])
    (.seq (.reg false [
      ⟨(some 14), none, .mv (.t 8), 0⟩,
      ⟨(some 15), none, .bin .neq (.t 14) (.k (.i .i64 (0))), 0⟩])
    (.ite (.t 15) (.seq (.reg false [
      ⟨(some 16), none, .build [.i .i64 (0), .sl none 0 (.ex 0), .sl none 0 (.ex 0)] [], 0⟩,
      ⟨(some 17), none, .mv (.t 8), 0⟩,
      ⟨none, none, .store 3 (.t 6) (.t 16), 0⟩,
      ⟨(some 7), none, .mv (.t 17), 0⟩])
    (.cut [6, 7] [6] .ret)) (.skip))))
    (.cut [3, 4, 5, 6] [3, 6] (.seq (.seq (.reg false [
      ⟨(some 18), none, .load none (.t 4), 0⟩,
      ⟨(some 19), none, .load none (.t 5), 0⟩,
      ⟨(some 20), none, .fadr 0 (.t 3), 0⟩,
      ⟨(some 21), none, .load none (.t 20), 0⟩,
      ⟨(some 22), none, .call 0 (.k (.fn (.func 54) [] [])) [.t 18, .t 19, .t 21], 0⟩,
      ⟨(some 9), none, .mv (.t 22), 0⟩])
    (.seq (.reg false [
      ⟨(some 23), none, .mv (.t 9), 0⟩,
      ⟨(some 24), none, .bin .neq (.t 23) (.k (.i .i64 (0))), 0⟩])
    (.ite (.t 24) (.seq (.reg false [
      ⟨(some 25), none, .build [.i .i64 (0), .sl none 0 (.ex 0), .sl none 0 (.ex 0)] [], 0⟩,
      ⟨(some 26), none, .mv (.t 9), 0⟩,
      ⟨none, none, .store 3 (.t 6) (.t 25), 0⟩,
      ⟨(some 7), none, .mv (.t 26), 0⟩])
    (.cut [6, 7] [6] .ret)) (.skip))))
    (.cut [3, 4, 5, 6] [3, 6] (.seq (.seq (.reg false [
      ⟨(some 27), none, .load none (.t 4), 0⟩,
      ⟨(some 28), none, .call 0 (.k (.fn (.func 45) [] [])) [.t 27], 0⟩,
      ⟨(some 29), none, .un .not (.t 28), 0⟩])
    (.ite (.t 29) (.seq (.reg false [
      ⟨(some 30), none, .build [.i .i64 (0), .sl none 0 (.ex 0), .sl none 0 (.ex 0)] [], 0⟩,
      ⟨none, none, .store 3 (.t 6) (.t 30), 0⟩,
      ⟨(some 7), none, .mv (.k (.i .i64 (141))), 0⟩])
    (.cut [6, 7] [6] .ret)) (.skip)))
    (.cut [3, 4, 5, 6] [3, 6] (.seq (.reg false [
      ⟨(some 31), none, .load (some 3) (.t 3), 0⟩,
      ⟨(some 32), none, .call 1 (.k (.fn (.func 55) [] [])) [.t 31], 0⟩,
      ⟨(some 10), none, .alloc true 30 [.i .i64 (0), .sl none 0 (.ex 0), .sl none 0 (.ex 0)], 0⟩,
      ⟨none, none, .store 3 (.t 10) (.t 32), 0⟩])
    (.seq (.reg false [
      ⟨(some 33), none, .mkf (.func 56) [] [.t 4, .t 5], 0⟩,
      ⟨(some 11), none, .mv (.t 33), 0⟩])
    (.seq (.reg false [
      ⟨(some 34), none, .mv (.t 11), 0⟩,
      ⟨(some 35), none, .fadr 1 (.t 10), 0⟩,
      ⟨(some 36), none, .load none (.t 35), 0⟩,
      ⟨(some 37), none, .call 2 (.t 34) [.t 36], 0⟩])
    (.seq (.reg false [
      ⟨(some 38), none, .mv (.t 11), 0⟩,
      ⟨(some 39), none, .fadr 2 (.t 10), 0⟩,
      ⟨(some 40), none, .load none (.t 39), 0⟩,
      ⟨(some 41), none, .call 2 (.t 38) [.t 40], 0⟩])
    (.seq (.reg false [
      ⟨(some 42), none, .load (some 3) (.t 10), 0⟩,
      ⟨none, none, .store 3 (.t 6) (.t 42), 0⟩,
      ⟨(some 7), none, .mv (.k (.i .i64 (0))), 0⟩])
    (.cut [6, 7] [6] .ret))))))))))))⟩

theorem ok37 : okFn Tryd.prog 3 Tryd.f37 a37 = true := by kernel_rfl

/-- (*phasor/stab.Machine).decide -/
def a38 : AFn := ⟨3, 61, [.cell 6 (some 6), .t 7],
    .seq (.reg false [
      ⟨(some 4), none, .box true 42 (.t 1), 0⟩,
      ⟨(some 6), none, .alloc true 64 [.i .i64 (0), .i .i64 (0), .i .i64 (0), .i .i64 (0), .f .f64 0, .f .f64 0], 0⟩,
      ⟨(some 7), none, .mv (.k (.i .i64 (0))), 0⟩])
    (.seq (.reg true [
      ⟨(some 14), none, .mv (.t 0), 0⟩,
      ⟨(some 15), none, .nchk (.t 14), 1⟩,
      ⟨(some 16), none, .fadr 4 (.t 15), 3⟩,
      ⟨(some 17), none, .fadr 0 (.t 16), 7⟩,
      ⟨(some 18), none, .load (some 3) (.t 17), 15⟩,
      ⟨(some 19), none, .fadr 2 (.t 4), 0⟩,
      ⟨(some 20), none, .load none (.t 19), 32⟩,
      ⟨(some 21), none, .iadr 1 (.t 20) (.k (.i .i64 (0))), 96⟩,
      ⟨(some 22), none, .load none (.t 21), 224⟩,
      ⟨(some 23), none, .call 0 (.k (.fn (.func 58) [] [])) [.t 18, .t 22], 511⟩,
      ⟨(some 13), none, .mv (.t 23), 1023⟩,
      ⟨(some 24), none, .ext (.t 13) 0, 2047⟩,
      ⟨(some 25), none, .ext (.t 13) 1, 2047⟩,
      ⟨(some 8), none, .mv (.t 24), 4095⟩,
      ⟨(some 9), none, .mv (.t 25), 16383⟩])
    (.seq (.reg false [
      ⟨(some 26), none, .build [.f .f64 0, .f .f64 0] [(0, 1, .k (.f .f64 4607182418800017408)), (1, 1, .k (.f .f64 0))], 0⟩,
      ⟨(some 27), none, .build [.f .f64 0, .f .f64 0] [(0, 1, .k (.f .f64 0)), (1, 1, .k (.f .f64 4607182418800017408))], 0⟩,
      ⟨(some 28), none, .build [.f .f64 0, .f .f64 0] [(0, 1, .k (.f .f64 4602678819172646912)), (1, 1, .k (.f .f64 4602678819172646912))], 0⟩,
      ⟨(some 29), none, .build [.f .f64 0, .f .f64 0, .f .f64 0, .f .f64 0, .f .f64 0, .f .f64 0] [(0, 2, .t 26), (2, 2, .t 27), (4, 2, .t 28)], 0⟩,
      ⟨(some 30), none, .mv (.t 8), 0⟩,
      ⟨(some 31), none, .idx 2 true 3 (.t 29) (.t 30), 0⟩,
      ⟨(some 10), none, .alloc true 105 [.f .f64 0, .f .f64 0], 0⟩,
      ⟨none, none, .store 2 (.t 10) (.t 31), 0⟩])
    (.seq (.reg false [
      ⟨(some 33), none, .iadra 1 2 (.t 10) (.k (.i .i64 (0))), 0⟩,
      ⟨(some 34), none, .load none (.t 33), 0⟩,
      ⟨(some 35), none, .iadra 1 2 (.t 10) (.k (.i .i64 (1))), 0⟩,
      ⟨(some 36), none, .load none (.t 35), 0⟩,
      ⟨(some 37), none, .mv (.t 2), 0⟩,
      ⟨(some 38), none, .call 0 (.k (.fn (.func 59) [] [])) [.t 34, .t 36, .t 37], 0⟩,
      ⟨(some 32), none, .mv (.t 38), 0⟩,
      ⟨(some 39), none, .ext (.t 32) 0, 0⟩,
      ⟨(some 40), none, .ext (.t 32) 1, 0⟩,
      ⟨(some 11), none, .mv (.t 39), 0⟩,
      ⟨(some 12), none, .mv (.t 40), 0⟩])
    (.seq (.seq (.reg false [
      ⟨(some 41), none, .mv (.t 12), 0⟩,
      ⟨(some 42), none, .bin .neq (.t 41) (.k (.i .i64 (0))), 0⟩])
    (.ite (.t 42) (.seq (.reg false [
      ⟨(some 43), none, .build [.i .i64 (0), .i .i64 (0), .i .i64 (0), .i .i64 (0), .f .f64 0, .f .f64 0] [], 0⟩,
      ⟨none, none, .store 6 (.t 6) (.t 43), 0⟩,
      ⟨(some 7), none, .mv (.k (.i .i64 (150))), 0⟩])
    (.cut [6, 7] [6] .ret)) (.skip)))
    (.cut [0, 4, 6, 10, 11] [4, 6, 10] (.seq (.reg true [
      ⟨(some 44), none, .mv (.t 0), 0⟩,
      ⟨(some 45), none, .nchk (.t 44), 1⟩,
      ⟨(some 46), none, .fadr 4 (.t 45), 3⟩,
      ⟨(some 47), none, .fadr 4 (.t 46), 7⟩,
      ⟨(some 48), none, .load none (.t 47), 15⟩,
      ⟨(some 49), none, .fadr 2 (.t 4), 0⟩,
      ⟨(some 50), none, .load none (.t 49), 32⟩,
      ⟨(some 51), none, .iadr 1 (.t 50) (.k (.i .i64 (0))), 96⟩,
      ⟨(some 52), none, .load none (.t 51), 224⟩,
      ⟨(some 53), none, .fadr 3 (.t 4), 0⟩,
      ⟨(some 54), none, .load none (.t 53), 512⟩,
      ⟨(some 55), none, .mv (.t 11), 0⟩,
      ⟨(some 56), none, .iadra 1 2 (.t 10) (.k (.i .i64 (0))), 0⟩,
      ⟨(some 57), none, .load none (.t 56), 4096⟩,
      ⟨(some 58), none, .iadra 1 2 (.t 10) (.k (.i .i64 (1))), 0⟩,
      ⟨(some 59), none, .load none (.t 58), 16384⟩,
      ⟨(some 60), none, .build [.i .i64 (0), .i .i64 (0), .i .i64 (0), .i .i64 (0), .f .f64 0, .f .f64 0] [(0, 1, .t 48), (1, 1, .t 52), (2, 1, .t 54), (3, 1, .t 55), (4, 1, .t 57), (5, 1, .t 59)], 65535⟩,
      ⟨none, none, .store 6 (.t 6) (.t 60), 131071⟩,
      ⟨(some 7), none, .mv (.k (.i .i64 (0))), 262143⟩])
    (.cut [6, 7] [6] .ret)))))))⟩

theorem ok38 : okFn Tryd.prog 3 Tryd.f38 a38 = true := by kernel_rfl

/-- phasor/tableau.Project -/
def a39 : AFn := ⟨3, 52, [.cell 6 (some 3), .t 7],
    .seq (.reg false [
      ⟨(some 3), none, .box true 30 (.t 0), 0⟩,
      ⟨(some 6), none, .alloc true 30 [.i .i64 (0), .sl none 0 (.ex 0), .sl none 0 (.ex 0)], 0⟩,
      ⟨(some 7), none, .mv (.k (.i .i64 (0))), 0⟩])
    (.seq (.reg false [
      ⟨(some 11), none, .load (some 3) (.t 3), 0⟩,
      ⟨(some 12), none, .mv (.t 1), 0⟩,
      ⟨(some 13), none, .call 0 (.k (.fn (.func 58) [] [])) [.t 11, .t 12], 0⟩,
      ⟨(some 10), none, .mv (.t 13), 0⟩,
      ⟨(some 14), none, .ext (.t 10) 0, 0⟩,
      ⟨(some 15), none, .ext (.t 10) 1, 0⟩,
      ⟨(some 8), none, .mv (.t 14), 0⟩,
      ⟨(some 9), none, .mv (.t 15), 0⟩])
    (.seq (.blk 0 (.seq (.reg false [
      ⟨(some 17), none, .mv (.t 9), 0⟩,
      ⟨(some 18), none, .bin .neq (.t 17) (.k (.i .i64 (0))), 0⟩,
      ⟨(some 16), none, .mv (.t 18), 0⟩])
    (.ite (.t 16) (.seq (.reg false [
      ⟨(some 19), none, .build [.i .i64 (0), .sl none 0 (.ex 0), .sl none 0 (.ex 0)] [], 0⟩,
      ⟨(some 20), none, .mv (.t 9), 0⟩,
      ⟨none, none, .store 3 (.t 6) (.t 19), 0⟩,
      ⟨(some 7), none, .mv (.t 20), 0⟩])
    (.cut [6, 7] [6] .ret)) (.seq (.reg false [
      ⟨(some 22), none, .mv (.t 2), 0⟩,
      ⟨(some 23), none, .bin .neq (.t 22) (.k (.i .i64 (0))), 0⟩,
      ⟨(some 24), none, .mv (.t 23), 0⟩,
      ⟨(some 25), (some (24, true)), .mv (.t 2), 0⟩,
      ⟨(some 26), (some (24, true)), .bin .neq (.t 25) (.k (.i .i64 (1))), 0⟩,
      ⟨(some 27), none, .pick (.t 24) (.t 26) (.k (.b false)), 0⟩,
      ⟨(some 21), none, .mv (.t 27), 0⟩])
    (.ite (.t 21) (.seq (.reg false [
      ⟨(some 28), none, .build [.i .i64 (0), .sl none 0 (.ex 0), .sl none 0 (.ex 0)] [], 0⟩,
      ⟨none, none, .store 3 (.t 6) (.t 28), 0⟩,
      ⟨(some 7), none, .mv (.k (.i .i64 (2))), 0⟩])
    (.cut [6, 7] [6] .ret)) (.seq (.reg false [
      ⟨(some 30), none, .mv (.t 8), 0⟩,
      ⟨(some 31), none, .mv (.t 2), 0⟩,
      ⟨(some 32), none, .bin .sub (.k (.i .i64 (1))) (.t 31), 0⟩,
      ⟨(some 33), none, .bin .eql (.t 30) (.t 32), 0⟩,
      ⟨(some 29), none, .mv (.t 33), 0⟩])
    (.ite (.t 29) (.seq (.reg false [
      ⟨(some 34), none, .build [.i .i64 (0), .sl none 0 (.ex 0), .sl none 0 (.ex 0)] [], 0⟩,
      ⟨none, none, .store 3 (.t 6) (.t 34), 0⟩,
      ⟨(some 7), none, .mv (.k (.i .i64 (142))), 0⟩])
    (.cut [6, 7] [6] .ret)) (.skip))))))))
    (.cut [1, 2, 3, 6, 8] [3, 6] (.seq (.seq (.reg false [
      ⟨(some 35), none, .mv (.t 8), 0⟩,
      ⟨(some 36), none, .mv (.t 2), 0⟩,
      ⟨(some 37), none, .bin .eql (.t 35) (.t 36), 0⟩])
    (.ite (.t 37) (.seq (.reg false [
      ⟨(some 38), none, .load (some 3) (.t 3), 0⟩,
      ⟨(some 39), none, .call 1 (.k (.fn (.func 55) [] [])) [.t 38], 0⟩,
      ⟨none, none, .store 3 (.t 6) (.t 39), 0⟩,
      ⟨(some 7), none, .mv (.k (.i .i64 (0))), 0⟩])
    (.cut [6, 7] [6] .ret)) (.skip)))
    (.cut [1, 2, 3, 6] [3, 6] (.seq (.reg true [
      ⟨(some 40), none, .load (some 3) (.t 3), 0⟩,
      ⟨(some 41), none, .load (some 3) (.t 3), 0⟩,
      ⟨(some 42), none, .mv (.t 1), 0⟩,
      ⟨(some 43), none, .call 0 (.k (.fn (.func 61) [] [])) [.t 41, .t 42], 6⟩,
      ⟨(some 44), none, .fadr 0 (.t 3), 0⟩,
      ⟨(some 45), none, .load none (.t 44), 16⟩,
      ⟨(some 46), none, .mv (.t 1), 0⟩,
      ⟨(some 47), none, .bin .shl (.k (.i .u64 (1))) (.t 46), 64⟩,
      ⟨(some 48), none, .mv (.t 2), 0⟩,
      ⟨(some 49), none, .bin .mul (.k (.i .i64 (2))) (.t 48), 256⟩,
      ⟨(some 50), none, .build [.i .i64 (0), .i .u64 (0), .i .u64 (0), .i .i64 (0)] [(0, 1, .t 45), (2, 1, .t 47), (3, 1, .t 49)], 1008⟩,
      ⟨(some 51), none, .call 1 (.k (.fn (.func 60) [] [])) [.t 40, .t 43, .t 50], 2047⟩,
      ⟨none, none, .store 3 (.t 6) (.t 51), 4095⟩,
      ⟨(some 7), none, .mv (.k (.i .i64 (0))), 8191⟩])
    (.cut [6, 7] [6] .ret)))))))⟩

theorem ok39 : okFn Tryd.prog 3 Tryd.f39 a39 = true := by kernel_rfl

/-- phasor/tableau.Settle -/
def a40 : AFn := ⟨3, 31, [.cell 6 (some 3), .t 7],
    .seq (.reg false [
      ⟨(some 3), none, .box true 30 (.t 0), 0⟩,
      ⟨(some 6), none, .alloc true 30 [.i .i64 (0), .sl none 0 (.ex 0), .sl none 0 (.ex 0)], 0⟩,
      ⟨(some 7), none, .mv (.k (.i .i64 (0))), 0⟩])
    (.seq (.reg false [
      ⟨(some 11), none, .load (some 3) (.t 3), 0⟩,
      ⟨(some 12), none, .mv (.t 1), 0⟩,
      ⟨(some 13), none, .mv (.t 2), 0⟩,
      ⟨(some 14), none, .call 1 (.k (.fn (.func 39) [] [])) [.t 11, .t 12, .t 13], 0⟩,
      ⟨(some 10), none, .mv (.t 14), 0⟩,
      ⟨(some 15), none, .ext (.t 10) 0, 0⟩,
      ⟨(some 16), none, .ext (.t 10) 1, 0⟩,
      ⟨(some 8), none, .alloc true 30 [.i .i64 (0), .sl none 0 (.ex 0), .sl none 0 (.ex 0)], 0⟩,
      ⟨none, none, .store 3 (.t 8) (.t 15), 0⟩,
      ⟨(some 9), none, .mv (.t 16), 0⟩])
    (.seq (.seq (.reg false [
      ⟨(some 17), none, .mv (.t 9), 0⟩,
      ⟨(some 18), none, .bin .neq (.t 17) (.k (.i .i64 (0))), 0⟩,
      ⟨(some 19), none, .mv (.t 18), 0⟩,
      ⟨(some 20), (some (19, false)), .mv (.t 2), 0⟩,
      ⟨(some 21), (some (19, false)), .bin .eql (.t 20) (.k (.i .i64 (0))), 0⟩,
      ⟨(some 22), none, .pick (.t 19) (.k (.b true)) (.t 21), 0⟩])
    (.ite (.t 22) (.seq (.reg false [
      ⟨(some 23), none, .load (some 3) (.t 8), 0⟩,
      ⟨(some 24), none, .mv (.t 9), 0⟩,
      ⟨none, none, .store 3 (.t 6) (.t 23), 0⟩,
      ⟨(some 7), none, .mv (.t 24), 0⟩])
    (.cut [6, 7] [6] .ret)) (.skip)))
    (.cut [1, 6, 8] [6, 8] (.seq (.reg false [
      ⟨(some 25), none, .load (some 3) (.t 8), 0⟩,
      ⟨(some 26), none, .mv (.t 1), 0⟩,
      ⟨(some 27), none, .bslice 3 1 1 [.i .i64 (0)] [(0, 1, .t 26)], 0⟩,
      ⟨(some 28), none, .call 1 (.k (.fn (.func 37) [] [])) [.t 25, .k (.i .i64 (2)), .t 27], 0⟩,
      ⟨(some 29), none, .ext (.t 28) 0, 0⟩,
      ⟨(some 30), none, .ext (.t 28) 1, 0⟩,
      ⟨none, none, .store 3 (.t 6) (.t 29), 0⟩,
      ⟨(some 7), none, .mv (.t 30), 0⟩])
    (.cut [6, 7] [6] .ret)))))⟩

theorem ok40 : okFn Tryd.prog 3 Tryd.f40 a40 = true := by kernel_rfl

/-- slices.Clone[[]phasor/api.Pauli,phasor/api.Pauli] -/
def a41 : AFn := ⟨1, 8, [.t 2],
    .seq (.reg false [
      ⟨(some 2), none, .mv (.k (.sl none 0 (.ex 0))), 0⟩])
    (.seq (.seq (.reg false [
      ⟨(some 3), none, .mv (.t 0), 0⟩,
      ⟨(some 4), none, .eqnil false (.t 3), 0⟩])
    (.ite (.t 4) (.seq (.reg false [
      ⟨(some 2), none, .mv (.k (.sl none 0 (.ex 0))), 0⟩])
    (.cut [2] [] .ret)) (.skip)))
    (.cut [0] [] (.seq (.reg false [
      ⟨(some 5), none, .bslice 67 4 0 [] [], 0⟩,
      ⟨(some 6), none, .mv (.t 0), 0⟩,
      ⟨(some 7), none, .app 67 4 32 (.t 5) (.t 6), 0⟩,
      ⟨(some 2), none, .mv (.t 7), 0⟩])
    (.cut [2] [] .ret))))⟩

theorem ok41 : okFn Tryd.prog 3 Tryd.f41 a41 = true := by kernel_rfl

def a42L0 : AC :=
    .cut [1, 2, 3, 79, 80, 81] [3] (.seq (.reg false [
      ⟨(some 82), none, .bin .lss (.t 81) (.t 80), 0⟩])
    (.seq (.ite (.t 82) (.skip) (.cut [2, 3] [3] (.exit 0)))
    (.cut [1, 2, 3, 79, 80, 81] [3] (.seq (.blk 1 (.seq (.reg false [
      ⟨(some 83), none, .mv (.t 81), 0⟩,
      ⟨(some 84), none, .iadr 1 (.t 79) (.t 81), 0⟩,
      ⟨(some 85), none, .load none (.t 84), 0⟩,
      ⟨(some 9), none, .mv (.t 83), 0⟩,
      ⟨(some 10), none, .mv (.t 85), 0⟩])
    (.seq (.reg false [
      ⟨(some 86), none, .mv (.t 10), 0⟩,
      ⟨(some 87), none, .bin .lss (.t 86) (.k (.i .i64 (0))), 0⟩,
      ⟨(some 88), none, .mv (.t 87), 0⟩,
      ⟨(some 89), (some (88, false)), .mv (.t 10), 0⟩,
      ⟨(some 90), (some (88, false)), .mv (.t 1), 0⟩,
      ⟨(some 91), (some (88, false)), .bin .geq (.t 89) (.t 90), 0⟩,
      ⟨(some 92), none, .pick (.t 88) (.k (.b true)) (.t 91), 0⟩,
      ⟨(some 93), none, .mv (.t 92), 0⟩,
      ⟨(some 94), (some (93, false)), .fadr 2 (.t 3), 0⟩,
      ⟨(some 95), (some (93, false)), .load none (.t 94), 0⟩,
      ⟨(some 96), (some (93, false)), .mv (.t 9), 0⟩,
      ⟨(some 97), (some (93, false)), .slc 1 (.t 95) none (some (.t 96)) none, 0⟩,
      ⟨(some 98), (some (93, false)), .mv (.t 10), 0⟩,
      ⟨(some 99), (some (93, false)), .call 0 (.k (.fn (.func 62) [] [])) [.t 97, .t 98], 0⟩,
      ⟨(some 100), none, .pick (.t 93) (.k (.b true)) (.t 99), 0⟩])
    (.ite (.t 100) (.seq (.reg false [
      ⟨(some 6), none, .mv (.k (.b false)), 0⟩])
    (.cut [6] [] .ret)) (.skip)))))
    (.cut [1, 2, 3, 79, 80, 81] [3] (.reg false [
      ⟨(some 101), none, .bin .add (.t 81) (.k (.i .i64 (1))), 0⟩,
      ⟨(some 81), none, .mv (.t 101), 0⟩]))))))
/-- phasor/circuit.may -/
def a42 : AFn := ⟨3, 137, [.t 6],
    .seq (.reg false [
      ⟨(some 3), none, .box true 42 (.t 0), 0⟩,
      ⟨(some 6), none, .mv (.k (.b false)), 0⟩])
    (.seq (.seq (.reg false [
      ⟨(some 11), none, .fadr 0 (.t 3), 0⟩,
      ⟨(some 12), none, .load none (.t 11), 0⟩,
      ⟨(some 13), none, .bin .eql (.t 12) (.k (.i .i64 (1))), 0⟩])
    (.ite (.t 13) (.seq (.reg false [
      ⟨(some 14), none, .fadr 4 (.t 3), 0⟩,
      ⟨(some 15), none, .load none (.t 14), 0⟩,
      ⟨(some 16), none, .bin .eql (.t 15) (.k (.i .i64 (-1))), 0⟩,
      ⟨(some 17), none, .mv (.t 16), 0⟩,
      ⟨(some 18), (some (17, true)), .fadr 5 (.t 3), 0⟩,
      ⟨(some 19), (some (17, true)), .load none (.t 18), 0⟩,
      ⟨(some 20), (some (17, true)), .bin .eql (.t 19) (.k (.i .i64 (0))), 0⟩,
      ⟨(some 21), none, .pick (.t 17) (.t 20) (.k (.b false)), 0⟩,
      ⟨(some 7), none, .mv (.t 21), 0⟩])
    (.seq (.reg false [
      ⟨(some 22), none, .fadr 4 (.t 3), 0⟩,
      ⟨(some 23), none, .load none (.t 22), 0⟩,
      ⟨(some 24), none, .bin .geq (.t 23) (.k (.i .i64 (0))), 0⟩,
      ⟨(some 25), none, .mv (.t 24), 0⟩,
      ⟨(some 26), (some (25, true)), .fadr 4 (.t 3), 0⟩,
      ⟨(some 27), (some (25, true)), .load none (.t 26), 0⟩,
      ⟨(some 28), (some (25, true)), .mv (.t 2), 0⟩,
      ⟨(some 29), (some (25, true)), .bin .lss (.t 27) (.t 28), 0⟩,
      ⟨(some 30), none, .pick (.t 25) (.t 29) (.k (.b false)), 0⟩,
      ⟨(some 31), none, .mv (.t 30), 0⟩,
      ⟨(some 32), (some (31, true)), .fadr 5 (.t 3), 0⟩,
      ⟨(some 33), (some (31, true)), .load none (.t 32), 0⟩,
      ⟨(some 34), (some (31, true)), .bin .eql (.t 33) (.k (.i .i64 (0))), 0⟩,
      ⟨(some 35), (some (31, true)), .mv (.t 34), 0⟩,
      ⟨(some 36), (some (35, false)), .fadr 5 (.t 3), 0⟩,
      ⟨(some 37), (some (35, false)), .load none (.t 36), 0⟩,
      ⟨(some 38), (some (35, false)), .bin .eql (.t 37) (.k (.i .i64 (1))), 0⟩,
      ⟨(some 39), (some (31, true)), .pick (.t 35) (.k (.b true)) (.t 38), 0⟩,
      ⟨(some 40), none, .pick (.t 31) (.t 39) (.k (.b false)), 0⟩,
      ⟨(some 8), none, .mv (.t 40), 0⟩])
    (.seq (.reg false [
      ⟨(some 41), none, .fadr 1 (.t 3), 0⟩,
      ⟨(some 42), none, .load none (.t 41), 0⟩,
      ⟨(some 43), none, .fadr 2 (.t 3), 0⟩,
      ⟨(some 44), none, .load none (.t 43), 0⟩,
      ⟨(some 45), none, .mv (.t 1), 0⟩,
      ⟨(some 46), none, .call 0 (.k (.fn (.func 54) [] [])) [.t 42, .t 44, .t 45], 0⟩,
      ⟨(some 47), none, .bin .eql (.t 46) (.k (.i .i64 (0))), 0⟩,
      ⟨(some 48), none, .mv (.t 47), 0⟩,
      ⟨(some 49), (some (48, true)), .fadr 3 (.t 3), 0⟩,
      ⟨(some 50), (some (48, true)), .load none (.t 49), 0⟩,
      ⟨(some 51), (some (48, true)), .bin .eql (.t 50) (.k (.i .i64 (0))), 0⟩,
      ⟨(some 52), none, .pick (.t 48) (.t 51) (.k (.b false)), 0⟩,
      ⟨(some 53), none, .mv (.t 52), 0⟩,
      ⟨(some 54), (some (53, true)), .mv (.t 7), 0⟩,
      ⟨(some 55), (some (53, true)), .mv (.t 54), 0⟩,
      ⟨(some 56), (some (55, false)), .mv (.t 8), 0⟩,
      ⟨(some 57), (some (53, true)), .pick (.t 55) (.k (.b true)) (.t 56), 0⟩,
      ⟨(some 58), none, .pick (.t 53) (.t 57) (.k (.b false)), 0⟩,
      ⟨(some 6), none, .mv (.t 58), 0⟩])
    (.cut [6] [] .ret)))) (.skip)))
    (.cut [1, 2, 3] [3] (.seq (.seq (.reg false [
      ⟨(some 59), none, .fadr 1 (.t 3), 0⟩,
      ⟨(some 60), none, .load none (.t 59), 0⟩,
      ⟨(some 61), none, .bin .neq (.t 60) (.k (.i .i64 (0))), 0⟩,
      ⟨(some 62), none, .mv (.t 61), 0⟩,
      ⟨(some 63), (some (62, false)), .fadr 4 (.t 3), 0⟩,
      ⟨(some 64), (some (62, false)), .load none (.t 63), 0⟩,
      ⟨(some 65), (some (62, false)), .bin .neq (.t 64) (.k (.i .i64 (-1))), 0⟩,
      ⟨(some 66), none, .pick (.t 62) (.k (.b true)) (.t 65), 0⟩,
      ⟨(some 67), none, .mv (.t 66), 0⟩,
      ⟨(some 68), (some (67, false)), .fadr 5 (.t 3), 0⟩,
      ⟨(some 69), (some (67, false)), .load none (.t 68), 0⟩,
      ⟨(some 70), (some (67, false)), .bin .neq (.t 69) (.k (.i .i64 (0))), 0⟩,
      ⟨(some 71), none, .pick (.t 67) (.k (.b true)) (.t 70), 0⟩,
      ⟨(some 72), none, .mv (.t 71), 0⟩,
      ⟨(some 73), (some (72, false)), .fadr 2 (.t 3), 0⟩,
      ⟨(some 74), (some (72, false)), .load none (.t 73), 0⟩,
      ⟨(some 75), (some (72, false)), .len false (.t 74), 0⟩,
      ⟨(some 76), (some (72, false)), .bin .eql (.t 75) (.k (.i .i64 (0))), 0⟩,
      ⟨(some 77), none, .pick (.t 72) (.k (.b true)) (.t 76), 0⟩])
    (.ite (.t 77) (.seq (.reg false [
      ⟨(some 6), none, .mv (.k (.b false)), 0⟩])
    (.cut [6] [] .ret)) (.skip)))
    (.cut [1, 2, 3] [3] (.seq (.seq (.reg false [
      ⟨(some 78), none, .fadr 2 (.t 3), 0⟩,
      ⟨(some 79), none, .load none (.t 78), 0⟩,
      ⟨(some 80), none, .len false (.t 79), 0⟩,
      ⟨(some 81), none, .mv (.k (.i .i64 (0))), 0⟩])
    (.blk 0 (.loop a42L0)))
    (.cut [2, 3] [3] (.seq (.seq (.reg false [
      ⟨(some 102), none, .fadr 0 (.t 3), 0⟩,
      ⟨(some 103), none, .load none (.t 102), 0⟩])
    (.blk 2 (.seq (.reg false [
      ⟨(some 105), none, .bin .eql (.t 103) (.k (.i .i64 (2))), 0⟩,
      ⟨(some 104), none, .mv (.t 105), 0⟩])
    (.ite (.t 104) (.seq (.reg false [
      ⟨(some 106), none, .fadr 2 (.t 3), 0⟩,
      ⟨(some 107), none, .load none (.t 106), 0⟩,
      ⟨(some 108), none, .len false (.t 107), 0⟩,
      ⟨(some 109), none, .bin .eql (.t 108) (.k (.i .i64 (1))), 0⟩,
      ⟨(some 110), none, .mv (.t 109), 0⟩,
      ⟨(some 111), (some (110, true)), .fadr 3 (.t 3), 0⟩,
      ⟨(some 112), (some (110, true)), .load none (.t 111), 0⟩,
      ⟨(some 113), (some (110, true)), .bin .geq (.t 112) (.k (.i .i64 (0))), 0⟩,
      ⟨(some 114), none, .pick (.t 110) (.t 113) (.k (.b false)), 0⟩,
      ⟨(some 115), none, .mv (.t 114), 0⟩,
      ⟨(some 116), (some (115, true)), .fadr 3 (.t 3), 0⟩,
      ⟨(some 117), (some (115, true)), .load none (.t 116), 0⟩,
      ⟨(some 118), (some (115, true)), .mv (.t 2), 0⟩,
      ⟨(some 119), (some (115, true)), .bin .lss (.t 117) (.t 118), 0⟩,
      ⟨(some 120), none, .pick (.t 115) (.t 119) (.k (.b false)), 0⟩,
      ⟨(some 6), none, .mv (.t 120), 0⟩])
    (.cut [6] [] .ret)) (.seq (.reg false [
      ⟨(some 122), none, .bin .eql (.t 103) (.k (.i .i64 (3))), 0⟩,
      ⟨(some 121), none, .mv (.t 122), 0⟩])
    (.ite (.t 121) (.seq (.reg false [
      ⟨(some 123), none, .fadr 2 (.t 3), 0⟩,
      ⟨(some 124), none, .load none (.t 123), 0⟩,
      ⟨(some 125), none, .len false (.t 124), 0⟩,
      ⟨(some 126), none, .bin .eql (.t 125) (.k (.i .i64 (1))), 0⟩,
      ⟨(some 127), none, .mv (.t 126), 0⟩,
      ⟨(some 128), (some (127, true)), .fadr 3 (.t 3), 0⟩,
      ⟨(some 129), (some (127, true)), .load none (.t 128), 0⟩,
      ⟨(some 130), (some (127, true)), .bin .eql (.t 129) (.k (.i .i64 (0))), 0⟩,
      ⟨(some 131), none, .pick (.t 127) (.t 130) (.k (.b false)), 0⟩,
      ⟨(some 6), none, .mv (.t 131), 0⟩])
    (.cut [6] [] .ret)) (.seq (.reg false [
      ⟨(some 133), none, .bin .eql (.t 103) (.k (.i .i64 (4))), 0⟩,
      ⟨(some 132), none, .mv (.t 133), 0⟩])
    (.ite (.t 132) (.seq (.reg false [
      ⟨(some 134), none, .fadr 3 (.t 3), 0⟩,
      ⟨(some 135), none, .load none (.t 134), 0⟩,
      ⟨(some 136), none, .bin .eql (.t 135) (.k (.i .i64 (0))), 0⟩,
      ⟨(some 6), none, .mv (.t 136), 0⟩])
    (.cut [6] [] .ret)) (.skip)))))))))
    (.cut [] [] (.seq (.reg false [
      ⟨(some 6), none, .mv (.k (.b false)), 0⟩])
    (.cut [6] [] .ret))))))))))⟩

theorem ok42 : okFn Tryd.prog 3 Tryd.f42 a42 = true := by kernel_rfl

/-- slices.ContainsFunc[[]phasor/api.Op,phasor/api.Op] -/
def a43 : AFn := ⟨2, 9, [.t 4],
    .seq (.reg false [
      ⟨(some 4), none, .mv (.k (.b false)), 0⟩])
    (.seq (.reg false [
      ⟨(some 5), none, .mv (.t 0), 0⟩,
      ⟨(some 6), none, .mv (.t 1), 0⟩,
      ⟨(some 7), none, .call 0 (.k (.fn (.func 63) [] [])) [.t 5, .t 6], 0⟩,
      ⟨(some 8), none, .bin .geq (.t 7) (.k (.i .i64 (0))), 0⟩,
      ⟨(some 4), none, .mv (.t 8), 0⟩])
    (.cut [4] [] .ret))⟩

theorem ok43 : okFn Tryd.prog 3 Tryd.f43 a43 = true := by kernel_rfl

/-- phasor/circuit.Clifford$1 -/
def a44 : AFn := ⟨1, 12, [.t 2],
    .seq (.reg false [
      ⟨(some 1), none, .box true 42 (.t 0), 0⟩,
      ⟨(some 2), none, .mv (.k (.b false)), 0⟩])
    (.seq (.reg false [
      ⟨(some 3), none, .fadr 0 (.t 1), 0⟩,
      ⟨(some 4), none, .load none (.t 3), 0⟩,
      ⟨(some 5), none, .bin .eql (.t 4) (.k (.i .i64 (1))), 0⟩,
      ⟨(some 6), none, .mv (.t 5), 0⟩,
      ⟨(some 7), (some (6, true)), .fadr 1 (.t 1), 0⟩,
      ⟨(some 8), (some (6, true)), .load none (.t 7), 0⟩,
      ⟨(some 9), (some (6, true)), .call 0 (.k (.fn (.func 45) [] [])) [.t 8], 0⟩,
      ⟨(some 10), (some (6, true)), .un .not (.t 9), 0⟩,
      ⟨(some 11), none, .pick (.t 6) (.t 10) (.k (.b false)), 0⟩,
      ⟨(some 2), none, .mv (.t 11), 0⟩])
    (.cut [2] [] .ret))⟩

theorem ok44 : okFn Tryd.prog 3 Tryd.f44 a44 = true := by kernel_rfl

/-- phasor/gate.Clifford -/
def a45 : AFn := ⟨1, 9, [.t 2],
    .seq (.reg false [
      ⟨(some 2), none, .mv (.k (.b false)), 0⟩])
    (.seq (.reg false [
      ⟨(some 3), none, .mv (.t 0), 0⟩,
      ⟨(some 4), none, .bin .geq (.t 3) (.k (.i .i64 (1))), 0⟩,
      ⟨(some 5), none, .mv (.t 4), 0⟩,
      ⟨(some 6), (some (5, true)), .mv (.t 0), 0⟩,
      ⟨(some 7), (some (5, true)), .bin .leq (.t 6) (.k (.i .i64 (17))), 0⟩,
      ⟨(some 8), none, .pick (.t 5) (.t 7) (.k (.b false)), 0⟩,
      ⟨(some 2), none, .mv (.t 8), 0⟩])
    (.cut [2] [] .ret))⟩

theorem ok45 : okFn Tryd.prog 3 Tryd.f45 a45 = true := by kernel_rfl

/-- phasor/pauli.Hermitian -/
def a46 : AFn := ⟨1, 11, [.t 2],
    .seq (.reg false [
      ⟨(some 1), none, .box true 67 (.t 0), 0⟩,
      ⟨(some 2), none, .mv (.k (.b false)), 0⟩])
    (.seq (.reg false [
      ⟨(some 3), none, .load (some 4) (.t 1), 0⟩,
      ⟨(some 4), none, .call 0 (.k (.fn (.func 49) [] [])) [.t 3], 0⟩,
      ⟨(some 5), none, .mv (.t 4), 0⟩,
      ⟨(some 6), (some (5, true)), .fadr 3 (.t 1), 0⟩,
      ⟨(some 7), (some (5, true)), .load none (.t 6), 0⟩,
      ⟨(some 8), (some (5, true)), .bin .rem (.t 7) (.k (.i .i64 (2))), 0⟩,
      ⟨(some 9), (some (5, true)), .bin .eql (.t 8) (.k (.i .i64 (0))), 0⟩,
      ⟨(some 10), none, .pick (.t 5) (.t 9) (.k (.b false)), 0⟩,
      ⟨(some 2), none, .mv (.t 10), 0⟩])
    (.cut [2] [] .ret))⟩

theorem ok46 : okFn Tryd.prog 3 Tryd.f46 a46 = true := by kernel_rfl

/-- phasor/tableau.commute -/
def a47 : AFn := ⟨2, 20, [.t 4],
    .seq (.reg false [
      ⟨(some 2), none, .box true 67 (.t 0), 0⟩,
      ⟨(some 3), none, .box true 67 (.t 1), 0⟩,
      ⟨(some 4), none, .mv (.k (.b false)), 0⟩])
    (.seq (.reg true [
      ⟨(some 5), none, .fadr 1 (.t 2), 0⟩,
      ⟨(some 6), none, .load none (.t 5), 1⟩,
      ⟨(some 7), none, .fadr 2 (.t 3), 0⟩,
      ⟨(some 8), none, .load none (.t 7), 4⟩,
      ⟨(some 9), none, .bin .and (.t 6) (.t 8), 15⟩,
      ⟨(some 10), none, .call 0 (.k (.fn (.func 50) [] [])) [.t 9], 31⟩,
      ⟨(some 11), none, .fadr 2 (.t 2), 0⟩,
      ⟨(some 12), none, .load none (.t 11), 64⟩,
      ⟨(some 13), none, .fadr 1 (.t 3), 0⟩,
      ⟨(some 14), none, .load none (.t 13), 256⟩,
      ⟨(some 15), none, .bin .and (.t 12) (.t 14), 960⟩,
      ⟨(some 16), none, .call 0 (.k (.fn (.func 50) [] [])) [.t 15], 2047⟩,
      ⟨(some 17), none, .bin .add (.t 10) (.t 16), 4095⟩,
      ⟨(some 18), none, .bin .rem (.t 17) (.k (.i .i64 (2))), 8191⟩,
      ⟨(some 19), none, .bin .eql (.t 18) (.k (.i .i64 (0))), 16383⟩,
      ⟨(some 4), none, .mv (.t 19), 32767⟩])
    (.cut [4] [] .ret))⟩

theorem ok47 : okFn Tryd.prog 3 Tryd.f47 a47 = true := by kernel_rfl

/-- phasor/state.Check -/
def a48 : AFn := ⟨1, 24, [.t 2, .t 3],
    .seq (.reg false [
      ⟨(some 2), none, .mv (.k (.i .i64 (0))), 0⟩,
      ⟨(some 3), none, .mv (.k (.i .i64 (0))), 0⟩])
    (.seq (.reg false [
      ⟨(some 5), none, .mv (.t 0), 0⟩,
      ⟨(some 6), none, .len false (.t 5), 0⟩,
      ⟨(some 7), none, .conv .u64 (.t 6), 0⟩,
      ⟨(some 8), none, .call 0 (.k (.fn (.func 64) [] [])) [.t 7], 0⟩,
      ⟨(some 9), none, .bin .sub (.t 8) (.k (.i .i64 (1))), 0⟩,
      ⟨(some 4), none, .mv (.t 9), 0⟩])
    (.seq (.seq (.reg false [
      ⟨(some 10), none, .mv (.t 4), 0⟩,
      ⟨(some 11), none, .bin .lss (.t 10) (.k (.i .i64 (0))), 0⟩,
      ⟨(some 12), none, .mv (.t 11), 0⟩,
      ⟨(some 13), (some (12, false)), .mv (.t 4), 0⟩,
      ⟨(some 14), (some (12, false)), .bin .gtr (.t 13) (.k (.i .i64 (12))), 0⟩,
      ⟨(some 15), none, .pick (.t 12) (.k (.b true)) (.t 14), 0⟩,
      ⟨(some 16), none, .mv (.t 15), 0⟩,
      ⟨(some 17), (some (16, false)), .mv (.t 0), 0⟩,
      ⟨(some 18), (some (16, false)), .len false (.t 17), 0⟩,
      ⟨(some 19), (some (16, false)), .mv (.t 4), 0⟩,
      ⟨(some 20), (some (16, false)), .bin .shl (.k (.i .i64 (1))) (.t 19), 0⟩,
      ⟨(some 21), (some (16, false)), .bin .neq (.t 18) (.t 20), 0⟩,
      ⟨(some 22), none, .pick (.t 16) (.k (.b true)) (.t 21), 0⟩])
    (.ite (.t 22) (.seq (.reg false [
      ⟨(some 2), none, .mv (.k (.i .i64 (0))), 0⟩,
      ⟨(some 3), none, .mv (.k (.i .i64 (90))), 0⟩])
    (.cut [2, 3] [] .ret)) (.skip)))
    (.cut [4] [] (.seq (.reg false [
      ⟨(some 23), none, .mv (.t 4), 0⟩,
      ⟨(some 2), none, .mv (.t 23), 0⟩,
      ⟨(some 3), none, .mv (.k (.i .i64 (0))), 0⟩])
    (.cut [2, 3] [] .ret)))))⟩

theorem ok48 : okFn Tryd.prog 3 Tryd.f48 a48 = true := by kernel_rfl

/-- phasor/pauli.right -/
def a49 : AFn := ⟨1, 6, [.t 2],
    .seq (.reg false [
      ⟨(some 1), none, .box true 67 (.t 0), 0⟩,
      ⟨(some 2), none, .mv (.k (.b false)), 0⟩])
    (.seq (.reg false [
      ⟨(some 3), none, .load (some 4) (.t 1), 0⟩,
      ⟨(some 4), none, .call 0 (.k (.fn (.func 65) [] [])) [.t 3], 0⟩,
      ⟨(some 5), none, .bin .eql (.t 4) (.k (.i .i64 (0))), 0⟩,
      ⟨(some 2), none, .mv (.t 5), 0⟩])
    (.cut [2] [] .ret))⟩

theorem ok49 : okFn Tryd.prog 3 Tryd.f49 a49 = true := by kernel_rfl

/-- math/bits.OnesCount64 -/
def a50 : AFn := ⟨1, 35, [.t 2],
    .seq (.reg false [
      ⟨(some 2), none, .mv (.k (.i .i64 (0))), 0⟩])
    (.seq (.reg false [
      ⟨(some 3), none, .mv (.t 0), 0⟩,
      ⟨(some 4), none, .bin .shr (.t 3) (.k (.i .u64 (1))), 0⟩,
      ⟨(some 5), none, .bin .and (.t 4) (.k (.i .u64 (6148914691236517205))), 0⟩,
      ⟨(some 6), none, .mv (.t 0), 0⟩,
      ⟨(some 7), none, .bin .and (.t 6) (.k (.i .u64 (6148914691236517205))), 0⟩,
      ⟨(some 8), none, .bin .add (.t 5) (.t 7), 0⟩,
      ⟨(some 0), none, .mv (.t 8), 0⟩])
    (.seq (.reg false [
      ⟨(some 9), none, .mv (.t 0), 0⟩,
      ⟨(some 10), none, .bin .shr (.t 9) (.k (.i .u64 (2))), 0⟩,
      ⟨(some 11), none, .bin .and (.t 10) (.k (.i .u64 (3689348814741910323))), 0⟩,
      ⟨(some 12), none, .mv (.t 0), 0⟩,
      ⟨(some 13), none, .bin .and (.t 12) (.k (.i .u64 (3689348814741910323))), 0⟩,
      ⟨(some 14), none, .bin .add (.t 11) (.t 13), 0⟩,
      ⟨(some 0), none, .mv (.t 14), 0⟩])
    (.seq (.reg false [
      ⟨(some 15), none, .mv (.t 0), 0⟩,
      ⟨(some 16), none, .bin .shr (.t 15) (.k (.i .u64 (4))), 0⟩,
      ⟨(some 17), none, .mv (.t 0), 0⟩,
      ⟨(some 18), none, .bin .add (.t 16) (.t 17), 0⟩,
      ⟨(some 19), none, .bin .and (.t 18) (.k (.i .u64 (1085102592571150095))), 0⟩,
      ⟨(some 0), none, .mv (.t 19), 0⟩])
    (.seq (.reg false [
      ⟨(some 20), none, .mv (.t 0), 0⟩,
      ⟨(some 21), none, .mv (.t 0), 0⟩,
      ⟨(some 22), none, .bin .shr (.t 21) (.k (.i .u64 (8))), 0⟩,
      ⟨(some 23), none, .bin .add (.t 20) (.t 22), 0⟩,
      ⟨(some 0), none, .mv (.t 23), 0⟩])
    (.seq (.reg false [
      ⟨(some 24), none, .mv (.t 0), 0⟩,
      ⟨(some 25), none, .mv (.t 0), 0⟩,
      ⟨(some 26), none, .bin .shr (.t 25) (.k (.i .u64 (16))), 0⟩,
      ⟨(some 27), none, .bin .add (.t 24) (.t 26), 0⟩,
      ⟨(some 0), none, .mv (.t 27), 0⟩])
    (.seq (.reg false [
      ⟨(some 28), none, .mv (.t 0), 0⟩,
      ⟨(some 29), none, .mv (.t 0), 0⟩,
      ⟨(some 30), none, .bin .shr (.t 29) (.k (.i .u64 (32))), 0⟩,
      ⟨(some 31), none, .bin .add (.t 28) (.t 30), 0⟩,
      ⟨(some 0), none, .mv (.t 31), 0⟩])
    (.seq (.reg false [
      ⟨(some 32), none, .mv (.t 0), 0⟩,
      ⟨(some 33), none, .conv .i64 (.t 32), 0⟩,
      ⟨(some 34), none, .bin .and (.t 33) (.k (.i .i64 (127))), 0⟩,
      ⟨(some 2), none, .mv (.t 34), 0⟩])
    (.cut [2] [] .ret))))))))⟩

theorem ok50 : okFn Tryd.prog 3 Tryd.f50 a50 = true := by kernel_rfl

/-- phasor/plane.Clean -/
def a51 : AFn := ⟨1, 5, [.t 2],
    .seq (.reg false [
      ⟨(some 2), none, .mv (.k (.c .f64 0 0)), 0⟩])
    (.seq (.reg false [
      ⟨(some 3), none, .mv (.t 0), 0⟩,
      ⟨(some 4), none, .call 0 (.k (.fn (.func 66) [] [])) [.t 3, .k (.fn (.func 67) [] [])], 0⟩,
      ⟨(some 2), none, .mv (.t 4), 0⟩])
    (.cut [2] [] .ret))⟩

theorem ok51 : okFn Tryd.prog 3 Tryd.f51 a51 = true := by kernel_rfl

/-- phasor/plane.Turn -/
def a52 : AFn := ⟨2, 28, [.t 4],
    .seq (.reg false [
      ⟨(some 4), none, .mv (.k (.c .f64 0 0)), 0⟩])
    (.seq (.seq (.reg false [
      ⟨(some 5), none, .mv (.t 1), 0⟩,
      ⟨(some 6), none, .bin .and (.t 5) (.k (.i .i64 (3))), 0⟩])
    (.blk 0 (.seq (.reg false [
      ⟨(some 8), none, .bin .eql (.t 6) (.k (.i .i64 (1))), 0⟩,
      ⟨(some 7), none, .mv (.t 8), 0⟩])
    (.ite (.t 7) (.seq (.reg false [
      ⟨(some 9), none, .mv (.t 0), 0⟩,
      ⟨(some 10), none, .pop .im [.t 9], 0⟩,
      ⟨(some 11), none, .pop .fneg [.t 10], 0⟩,
      ⟨(some 12), none, .mv (.t 0), 0⟩,
      ⟨(some 13), none, .pop .re [.t 12], 0⟩,
      ⟨(some 14), none, .pop .mk [.t 11, .t 13], 0⟩,
      ⟨(some 4), none, .mv (.t 14), 0⟩])
    (.cut [4] [] .ret)) (.seq (.reg false [
      ⟨(some 16), none, .bin .eql (.t 6) (.k (.i .i64 (2))), 0⟩,
      ⟨(some 15), none, .mv (.t 16), 0⟩])
    (.ite (.t 15) (.seq (.reg false [
      ⟨(some 17), none, .mv (.t 0), 0⟩,
      ⟨(some 18), none, .call 0 (.k (.fn (.func 68) [] [])) [.t 17], 0⟩,
      ⟨(some 4), none, .mv (.t 18), 0⟩])
    (.cut [4] [] .ret)) (.seq (.reg false [
      ⟨(some 20), none, .bin .eql (.t 6) (.k (.i .i64 (3))), 0⟩,
      ⟨(some 19), none, .mv (.t 20), 0⟩])
    (.ite (.t 19) (.seq (.reg false [
      ⟨(some 21), none, .mv (.t 0), 0⟩,
      ⟨(some 22), none, .pop .im [.t 21], 0⟩,
      ⟨(some 23), none, .mv (.t 0), 0⟩,
      ⟨(some 24), none, .pop .re [.t 23], 0⟩,
      ⟨(some 25), none, .pop .fneg [.t 24], 0⟩,
      ⟨(some 26), none, .pop .mk [.t 22, .t 25], 0⟩,
      ⟨(some 4), none, .mv (.t 26), 0⟩])
    (.cut [4] [] .ret)) (.skip)))))))))
    (.cut [0] [] (.seq (.reg false [
      ⟨(some 27), none, .mv (.t 0), 0⟩,
      ⟨(some 4), none, .mv (.t 27), 0⟩])
    (.cut [4] [] .ret))))⟩

theorem ok52 : okFn Tryd.prog 3 Tryd.f52 a52 = true := by kernel_rfl

def a53L0 : AC :=
    .cut [0, 1, 7, 8] [] (.seq (.reg false [
      ⟨(some 9), none, .bin .lss (.t 8) (.t 7), 0⟩])
    (.seq (.ite (.t 9) (.skip) (.cut [] [] (.exit 0)))
    (.cut [0, 1, 7, 8] [] (.seq (.blk 1 (.seq (.reg false [
      ⟨(some 10), none, .mv (.t 8), 0⟩,
      ⟨(some 5), none, .mv (.t 10), 0⟩])
    (.seq (.reg false [
      ⟨(some 11), none, .mv (.t 1), 0⟩,
      ⟨(some 12), none, .mv (.t 0), 0⟩,
      ⟨(some 13), none, .mv (.t 5), 0⟩,
      ⟨(some 14), none, .iadr 1 (.t 12) (.t 13), 0⟩,
      ⟨(some 15), none, .load none (.t 14), 0⟩,
      ⟨(some 16), none, .call 0 (.t 11) [.t 15], 0⟩])
    (.ite (.t 16) (.seq (.reg false [
      ⟨(some 17), none, .mv (.t 5), 0⟩,
      ⟨(some 4), none, .mv (.t 17), 0⟩])
    (.cut [4] [] .ret)) (.skip)))))
    (.cut [0, 1, 7, 8] [] (.reg false [
      ⟨(some 18), none, .bin .add (.t 8) (.k (.i .i64 (1))), 0⟩,
      ⟨(some 8), none, .mv (.t 18), 0⟩]))))))
/-- slices.IndexFunc[[]complex128,complex128] -/
def a53 : AFn := ⟨2, 19, [.t 4],
    .seq (.reg false [
      ⟨(some 4), none, .mv (.k (.i .i64 (0))), 0⟩])
    (.seq (.seq (.reg false [
      ⟨(some 6), none, .mv (.t 0), 0⟩,
      ⟨(some 7), none, .len false (.t 6), 0⟩,
      ⟨(some 8), none, .mv (.k (.i .i64 (0))), 0⟩])
    (.blk 0 (.loop a53L0)))
    (.cut [] [] (.seq (.reg false [
      ⟨(some 4), none, .mv (.k (.i .i64 (-1))), 0⟩])
    (.cut [4] [] .ret))))⟩

theorem ok53 : okFn Tryd.prog 3 Tryd.f53 a53 = true := by kernel_rfl

def a54L0 : AC :=
    .cut [1, 2, 17, 18, 19] [] (.seq (.reg false [
      ⟨(some 20), none, .bin .lss (.t 19) (.t 18), 0⟩])
    (.seq (.ite (.t 20) (.skip) (.cut [] [] (.exit 0)))
    (.cut [1, 2, 17, 18, 19] [] (.seq (.blk 1 (.seq (.reg false [
      ⟨(some 21), none, .mv (.t 19), 0⟩,
      ⟨(some 22), none, .iadr 1 (.t 17) (.t 19), 0⟩,
      ⟨(some 23), none, .load none (.t 22), 0⟩,
      ⟨(some 7), none, .mv (.t 21), 0⟩,
      ⟨(some 8), none, .mv (.t 23), 0⟩])
    (.seq (.reg false [
      ⟨(some 24), none, .mv (.t 8), 0⟩,
      ⟨(some 25), none, .bin .lss (.t 24) (.k (.i .i64 (0))), 0⟩,
      ⟨(some 26), none, .mv (.t 25), 0⟩,
      ⟨(some 27), (some (26, false)), .mv (.t 8), 0⟩,
      ⟨(some 28), (some (26, false)), .mv (.t 2), 0⟩,
      ⟨(some 29), (some (26, false)), .bin .geq (.t 27) (.t 28), 0⟩,
      ⟨(some 30), none, .pick (.t 26) (.k (.b true)) (.t 29), 0⟩,
      ⟨(some 31), none, .mv (.t 30), 0⟩,
      ⟨(some 32), (some (31, false)), .mv (.t 1), 0⟩,
      ⟨(some 33), (some (31, false)), .mv (.t 7), 0⟩,
      ⟨(some 34), (some (31, false)), .slc 1 (.t 32) none (some (.t 33)) none, 0⟩,
      ⟨(some 35), (some (31, false)), .mv (.t 8), 0⟩,
      ⟨(some 36), (some (31, false)), .call 0 (.k (.fn (.func 62) [] [])) [.t 34, .t 35], 0⟩,
      ⟨(some 37), none, .pick (.t 31) (.k (.b true)) (.t 36), 0⟩])
    (.ite (.t 37) (.seq (.reg false [
      ⟨(some 6), none, .mv (.k (.i .i64 (61))), 0⟩])
    (.cut [6] [] .ret)) (.skip)))))
    (.cut [1, 2, 17, 18, 19] [] (.reg false [
      ⟨(some 38), none, .bin .add (.t 19) (.k (.i .i64 (1))), 0⟩,
      ⟨(some 19), none, .mv (.t 38), 0⟩]))))))
/-- phasor/gate.Check -/
def a54 : AFn := ⟨3, 39, [.t 6],
    .seq (.reg false [
      ⟨(some 6), none, .mv (.k (.i .i64 (0))), 0⟩])
    (.seq (.seq (.reg false [
      ⟨(some 9), none, .mv (.t 0), 0⟩,
      ⟨(some 10), none, .call 0 (.k (.fn (.func 69) [] [])) [.t 9], 0⟩,
      ⟨(some 11), none, .bin .eql (.t 10) (.k (.i .i64 (0))), 0⟩])
    (.ite (.t 11) (.seq (.reg false [
      ⟨(some 6), none, .mv (.k (.i .i64 (60))), 0⟩])
    (.cut [6] [] .ret)) (.skip)))
    (.cut [0, 1, 2] [] (.seq (.seq (.reg false [
      ⟨(some 12), none, .mv (.t 1), 0⟩,
      ⟨(some 13), none, .len false (.t 12), 0⟩,
      ⟨(some 14), none, .mv (.t 0), 0⟩,
      ⟨(some 15), none, .call 0 (.k (.fn (.func 69) [] [])) [.t 14], 0⟩,
      ⟨(some 16), none, .bin .neq (.t 13) (.t 15), 0⟩])
    (.ite (.t 16) (.seq (.reg false [
      ⟨(some 6), none, .mv (.k (.i .i64 (61))), 0⟩])
    (.cut [6] [] .ret)) (.skip)))
    (.cut [1, 2] [] (.seq (.seq (.reg false [
      ⟨(some 17), none, .mv (.t 1), 0⟩,
      ⟨(some 18), none, .len false (.t 17), 0⟩,
      ⟨(some 19), none, .mv (.k (.i .i64 (0))), 0⟩])
    (.blk 0 (.loop a54L0)))
    (.cut [] [] (.seq (.reg false [
      ⟨(some 6), none, .mv (.k (.i .i64 (0))), 0⟩])
    (.cut [6] [] .ret))))))))⟩

theorem ok54 : okFn Tryd.prog 3 Tryd.f54 a54 = true := by kernel_rfl

/-- phasor/tableau.copied -/
def a55 : AFn := ⟨1, 12, [.cell 2 (some 3)],
    .seq (.reg false [
      ⟨(some 1), none, .box true 30 (.t 0), 0⟩,
      ⟨(some 2), none, .alloc true 30 [.i .i64 (0), .sl none 0 (.ex 0), .sl none 0 (.ex 0)], 0⟩])
    (.seq (.reg true [
      ⟨(some 3), none, .fadr 0 (.t 1), 0⟩,
      ⟨(some 4), none, .load none (.t 3), 1⟩,
      ⟨(some 5), none, .fadr 1 (.t 1), 0⟩,
      ⟨(some 6), none, .load none (.t 5), 4⟩,
      ⟨(some 7), none, .call 1 (.k (.fn (.func 41) [] [])) [.t 6], 12⟩,
      ⟨(some 8), none, .fadr 2 (.t 1), 0⟩,
      ⟨(some 9), none, .load none (.t 8), 32⟩,
      ⟨(some 10), none, .call 1 (.k (.fn (.func 41) [] [])) [.t 9], 124⟩,
      ⟨(some 11), none, .build [.i .i64 (0), .sl none 0 (.ex 0), .sl none 0 (.ex 0)] [(0, 1, .t 4), (1, 1, .t 7), (2, 1, .t 10)], 255⟩,
      ⟨none, none, .store 3 (.t 2) (.t 11), 511⟩])
    (.cut [2] [2] .ret))⟩

theorem ok55 : okFn Tryd.prog 3 Tryd.f55 a55 = true := by kernel_rfl

def a56L0 : AC :=
    .cut [0, 1, 2, 6, 7, 8] [] (.seq (.reg false [
      ⟨(some 9), none, .bin .lss (.t 8) (.t 7), 0⟩])
    (.seq (.ite (.t 9) (.skip) (.cut [] [] (.exit 0)))
    (.cut [0, 1, 2, 6, 7, 8] [] (.seq (.blk 1 (.seq (.reg false [
      ⟨(some 10), none, .mv (.t 8), 0⟩,
      ⟨(some 11), none, .iadr 4 (.t 6) (.t 8), 0⟩,
      ⟨(some 12), none, .load (some 4) (.t 11), 0⟩,
      ⟨(some 5), none, .alloc true 67 [.i .i64 (0), .i .u64 (0), .i .u64 (0), .i .i64 (0)], 0⟩,
      ⟨(some 4), none, .mv (.t 10), 0⟩,
      ⟨none, none, .store 4 (.t 5) (.t 12), 0⟩])
    (.reg false [
      ⟨(some 14), none, .mv (.t 0), 0⟩,
      ⟨(some 15), none, .mv (.t 4), 0⟩,
      ⟨(some 16), none, .load (some 4) (.t 5), 0⟩,
      ⟨(some 17), none, .load none (.t 1), 0⟩,
      ⟨(some 18), none, .load none (.t 2), 0⟩,
      ⟨(some 19), none, .call 0 (.k (.fn (.func 57) [] [])) [.t 16, .t 17, .t 18], 0⟩,
      ⟨(some 13), none, .mv (.t 19), 0⟩,
      ⟨(some 20), none, .ext (.t 13) 0, 0⟩,
      ⟨(some 21), none, .ext (.t 13) 1, 0⟩,
      ⟨(some 22), none, .iadr 4 (.t 14) (.t 15), 0⟩,
      ⟨none, none, .store 4 (.t 22) (.t 20), 0⟩])))
    (.cut [0, 1, 2, 6, 7, 8] [] (.reg false [
      ⟨(some 23), none, .bin .add (.t 8) (.k (.i .i64 (1))), 0⟩,
      ⟨(some 8), none, .mv (.t 23), 0⟩]))))))
/-- phasor/tableau.Gate$1 -/
def a56 : AFn := ⟨3, 24, [],
    .seq (.reg false [
      ⟨(some 6), none, .mv (.t 0), 0⟩,
      ⟨(some 7), none, .len false (.t 6), 0⟩,
      ⟨(some 8), none, .mv (.k (.i .i64 (0))), 0⟩])
    (.blk 0 (.loop a56L0))⟩

theorem ok56 : okFn Tryd.prog 3 Tryd.f56 a56 = true := by kernel_rfl

def a57L0 : AC :=
    .cut [1, 2, 3, 6, 8, 33, 34, 35] [3, 6, 8] (.seq (.reg false [
      ⟨(some 36), none, .bin .lss (.t 35) (.t 34), 0⟩])
    (.seq (.ite (.t 36) (.skip) (.cut [1, 2, 3, 6, 8] [3, 6, 8] (.exit 0)))
    (.cut [1, 2, 3, 6, 8, 33, 34, 35] [3, 6, 8] (.seq (.blk 1 (.seq (.reg false [
      ⟨(some 37), none, .iadr 1 (.t 33) (.t 35), 0⟩,
      ⟨(some 38), none, .load none (.t 37), 0⟩,
      ⟨(some 10), none, .mv (.t 38), 0⟩])
    (.seq (.reg true [
      ⟨(some 39), none, .fadr 1 (.t 8), 0⟩,
      ⟨(some 40), none, .load none (.t 39), 1⟩,
      ⟨(some 41), none, .mv (.t 10), 0⟩,
      ⟨(some 42), none, .bin .shl (.k (.i .u64 (1))) (.t 41), 4⟩,
      ⟨(some 43), none, .bin .andNot (.t 40) (.t 42), 15⟩,
      ⟨(some 44), none, .fadr 1 (.t 8), 31⟩,
      ⟨none, none, .store 1 (.t 44) (.t 43), 63⟩])
    (.reg true [
      ⟨(some 45), none, .fadr 2 (.t 8), 0⟩,
      ⟨(some 46), none, .load none (.t 45), 1⟩,
      ⟨(some 47), none, .mv (.t 10), 0⟩,
      ⟨(some 48), none, .bin .shl (.k (.i .u64 (1))) (.t 47), 4⟩,
      ⟨(some 49), none, .bin .andNot (.t 46) (.t 48), 15⟩,
      ⟨(some 50), none, .fadr 2 (.t 8), 31⟩,
      ⟨none, none, .store 1 (.t 50) (.t 49), 63⟩]))))
    (.cut [1, 2, 3, 6, 8, 33, 34, 35] [3, 6, 8] (.reg false [
      ⟨(some 51), none, .bin .add (.t 35) (.k (.i .i64 (1))), 0⟩,
      ⟨(some 35), none, .mv (.t 51), 0⟩]))))))
def a57L1 : AC :=
    .cut [2, 3, 6, 8, 11, 54, 55, 56] [3, 6, 8] (.seq (.reg false [
      ⟨(some 57), none, .bin .lss (.t 56) (.t 55), 0⟩])
    (.seq (.ite (.t 57) (.skip) (.cut [6, 8] [6, 8] (.exit 2)))
    (.cut [2, 3, 6, 8, 11, 54, 55, 56] [3, 6, 8] (.seq (.blk 3 (.seq (.reg false [
      ⟨(some 58), none, .mv (.t 56), 0⟩,
      ⟨(some 59), none, .iadr 1 (.t 54) (.t 56), 0⟩,
      ⟨(some 60), none, .load none (.t 59), 0⟩,
      ⟨(some 12), none, .mv (.t 58), 0⟩,
      ⟨(some 13), none, .mv (.t 60), 0⟩])
    (.seq (.reg false [
      ⟨(some 61), none, .load (some 4) (.t 3), 0⟩,
      ⟨(some 62), none, .mv (.t 13), 0⟩,
      ⟨(some 63), none, .call 0 (.k (.fn (.func 71) [] [])) [.t 61, .t 62], 0⟩,
      ⟨(some 14), none, .mv (.t 63), 0⟩])
    (.seq (.seq (.reg false [
      ⟨(some 64), none, .mv (.t 14), 0⟩,
      ⟨(some 65), none, .bin .eql (.t 64) (.k (.i .i64 (2))), 0⟩])
    (.ite (.t 65) (.reg false [
      ⟨(some 66), none, .fadr 3 (.t 8), 0⟩,
      ⟨(some 67), none, .load none (.t 66), 0⟩,
      ⟨(some 68), none, .bin .add (.t 67) (.k (.i .i64 (1))), 0⟩,
      ⟨(some 69), none, .bin .rem (.t 68) (.k (.i .i64 (4))), 0⟩,
      ⟨(some 70), none, .fadr 3 (.t 8), 0⟩,
      ⟨none, none, .store 1 (.t 70) (.t 69), 0⟩]) (.skip)))
    (.cut [2, 3, 6, 8, 11, 12, 14, 54, 55, 56] [3, 6, 8] (.seq (.seq (.reg false [
      ⟨(some 71), none, .mv (.t 14), 0⟩,
      ⟨(some 72), none, .bin .eql (.t 71) (.k (.i .i64 (1))), 0⟩,
      ⟨(some 73), none, .mv (.t 72), 0⟩,
      ⟨(some 74), (some (73, false)), .mv (.t 14), 0⟩,
      ⟨(some 75), (some (73, false)), .bin .eql (.t 74) (.k (.i .i64 (2))), 0⟩,
      ⟨(some 76), none, .pick (.t 73) (.k (.b true)) (.t 75), 0⟩])
    (.ite (.t 76) (.reg true [
      ⟨(some 77), none, .load (some 4) (.t 8), 0⟩,
      ⟨(some 78), none, .mv (.t 11), 0⟩,
      ⟨(some 79), none, .mv (.t 12), 0⟩,
      ⟨(some 80), none, .bin .mul (.k (.i .i64 (2))) (.t 79), 4⟩,
      ⟨(some 81), none, .iadr 1 (.t 78) (.t 80), 14⟩,
      ⟨(some 82), none, .load none (.t 81), 30⟩,
      ⟨(some 83), none, .fadr 0 (.t 3), 0⟩,
      ⟨(some 84), none, .load none (.t 83), 64⟩,
      ⟨(some 85), none, .mv (.t 2), 0⟩,
      ⟨(some 86), none, .call 0 (.k (.fn (.func 73) [] [])) [.t 82, .t 84, .t 85], 510⟩,
      ⟨(some 87), none, .call 0 (.k (.fn (.func 72) [] [])) [.t 77, .t 86], 1023⟩,
      ⟨none, none, .store 4 (.t 8) (.t 87), 2047⟩]) (.skip)))
    (.cut [2, 3, 6, 8, 11, 12, 14, 54, 55, 56] [3, 6, 8] (.seq (.reg false [
      ⟨(some 88), none, .mv (.t 14), 0⟩,
      ⟨(some 89), none, .bin .geq (.t 88) (.k (.i .i64 (2))), 0⟩])
    (.ite (.t 89) (.reg true [
      ⟨(some 90), none, .load (some 4) (.t 8), 0⟩,
      ⟨(some 91), none, .mv (.t 11), 0⟩,
      ⟨(some 92), none, .mv (.t 12), 0⟩,
      ⟨(some 93), none, .bin .mul (.k (.i .i64 (2))) (.t 92), 4⟩,
      ⟨(some 94), none, .bin .add (.t 93) (.k (.i .i64 (1))), 12⟩,
      ⟨(some 95), none, .iadr 1 (.t 91) (.t 94), 30⟩,
      ⟨(some 96), none, .load none (.t 95), 62⟩,
      ⟨(some 97), none, .fadr 0 (.t 3), 0⟩,
      ⟨(some 98), none, .load none (.t 97), 128⟩,
      ⟨(some 99), none, .mv (.t 2), 0⟩,
      ⟨(some 100), none, .call 0 (.k (.fn (.func 73) [] [])) [.t 96, .t 98, .t 99], 1022⟩,
      ⟨(some 101), none, .call 0 (.k (.fn (.func 72) [] [])) [.t 90, .t 100], 2047⟩,
      ⟨none, none, .store 4 (.t 8) (.t 101), 4095⟩]) (.skip))))))))))
    (.cut [2, 3, 6, 8, 11, 54, 55, 56] [3, 6, 8] (.reg false [
      ⟨(some 102), none, .bin .add (.t 56) (.k (.i .i64 (1))), 0⟩,
      ⟨(some 56), none, .mv (.t 102), 0⟩]))))))
/-- phasor/pauli.Through -/
def a57 : AFn := ⟨3, 104, [.cell 6 (some 4), .t 7],
    .seq (.reg false [
      ⟨(some 3), none, .box true 67 (.t 0), 0⟩,
      ⟨(some 6), none, .alloc true 67 [.i .i64 (0), .i .u64 (0), .i .u64 (0), .i .i64 (0)], 0⟩,
      ⟨(some 7), none, .mv (.k (.i .i64 (0))), 0⟩])
    (.seq (.seq (.reg false [
      ⟨(some 15), none, .load (some 4) (.t 3), 0⟩,
      ⟨(some 16), none, .call 0 (.k (.fn (.func 49) [] [])) [.t 15], 0⟩,
      ⟨(some 17), none, .un .not (.t 16), 0⟩,
      ⟨(some 18), none, .mv (.t 17), 0⟩,
      ⟨(some 19), (some (18, false)), .mv (.t 1), 0⟩,
      ⟨(some 20), (some (18, false)), .call 0 (.k (.fn (.func 45) [] [])) [.t 19], 0⟩,
      ⟨(some 21), (some (18, false)), .un .not (.t 20), 0⟩,
      ⟨(some 22), none, .pick (.t 18) (.k (.b true)) (.t 21), 0⟩,
      ⟨(some 23), none, .mv (.t 22), 0⟩,
      ⟨(some 24), (some (23, false)), .mv (.t 1), 0⟩,
      ⟨(some 25), (some (23, false)), .mv (.t 2), 0⟩,
      ⟨(some 26), (some (23, false)), .fadr 0 (.t 3), 0⟩,
      ⟨(some 27), (some (23, false)), .load none (.t 26), 0⟩,
      ⟨(some 28), (some (23, false)), .call 0 (.k (.fn (.func 54) [] [])) [.t 24, .t 25, .t 27], 0⟩,
      ⟨(some 29), (some (23, false)), .bin .neq (.t 28) (.k (.i .i64 (0))), 0⟩,
      ⟨(some 30), none, .pick (.t 23) (.k (.b true)) (.t 29), 0⟩])
    (.ite (.t 30) (.seq (.reg false [
      ⟨(some 31), none, .build [.i .i64 (0), .i .u64 (0), .i .u64 (0), .i .i64 (0)] [], 0⟩,
      ⟨none, none, .store 4 (.t 6) (.t 31), 0⟩,
      ⟨(some 7), none, .mv (.k (.i .i64 (130))), 0⟩])
    (.cut [6, 7] [6] .ret)) (.skip)))
    (.cut [1, 2, 3, 6] [3, 6] (.seq (.reg false [
      ⟨(some 32), none, .load (some 4) (.t 3), 0⟩,
      ⟨(some 8), none, .alloc true 67 [.i .i64 (0), .i .u64 (0), .i .u64 (0), .i .i64 (0)], 0⟩,
      ⟨none, none, .store 4 (.t 8) (.t 32), 0⟩])
    (.seq (.seq (.reg false [
      ⟨(some 33), none, .mv (.t 2), 0⟩,
      ⟨(some 34), none, .len false (.t 33), 0⟩,
      ⟨(some 35), none, .mv (.k (.i .i64 (0))), 0⟩])
    (.blk 0 (.loop a57L0)))
    (.cut [1, 2, 3, 6, 8] [3, 6, 8] (.seq (.reg false [
      ⟨(some 52), none, .mv (.t 1), 0⟩,
      ⟨(some 53), none, .call 1 (.k (.fn (.func 70) [] [])) [.t 52], 0⟩,
      ⟨(some 11), none, .mv (.t 53), 0⟩])
    (.seq (.seq (.reg false [
      ⟨(some 54), none, .mv (.t 2), 0⟩,
      ⟨(some 55), none, .len false (.t 54), 0⟩,
      ⟨(some 56), none, .mv (.k (.i .i64 (0))), 0⟩])
    (.blk 2 (.loop a57L1)))
    (.cut [6, 8] [6, 8] (.seq (.reg false [
      ⟨(some 103), none, .load (some 4) (.t 8), 0⟩,
      ⟨none, none, .store 4 (.t 6) (.t 103), 0⟩,
      ⟨(some 7), none, .mv (.k (.i .i64 (0))), 0⟩])
    (.cut [6, 7] [6] .ret))))))))))⟩

theorem ok57 : okFn Tryd.prog 3 Tryd.f57 a57 = true := by kernel_rfl

/-- phasor/tableau.Odds -/
def a58 : AFn := ⟨2, 26, [.t 4, .t 5],
    .seq (.reg false [
      ⟨(some 2), none, .box true 30 (.t 0), 0⟩,
      ⟨(some 4), none, .mv (.k (.i .i64 (0))), 0⟩,
      ⟨(some 5), none, .mv (.k (.i .i64 (0))), 0⟩])
    (.seq (.seq (.reg false [
      ⟨(some 7), none, .load (some 3) (.t 2), 0⟩,
      ⟨(some 8), none, .mv (.t 1), 0⟩,
      ⟨(some 9), none, .call 0 (.k (.fn (.func 74) [] [])) [.t 7, .t 8], 0⟩,
      ⟨(some 6), none, .mv (.t 9), 0⟩])
    (.seq (.reg false [
      ⟨(some 10), none, .mv (.t 6), 0⟩,
      ⟨(some 11), none, .bin .neq (.t 10) (.k (.i .i64 (0))), 0⟩])
    (.ite (.t 11) (.seq (.reg false [
      ⟨(some 12), none, .mv (.t 6), 0⟩,
      ⟨(some 4), none, .mv (.k (.i .i64 (0))), 0⟩,
      ⟨(some 5), none, .mv (.t 12), 0⟩])
    (.cut [4, 5] [] .ret)) (.skip))))
    (.cut [1, 2] [2] (.seq (.seq (.reg false [
      ⟨(some 13), none, .load (some 3) (.t 2), 0⟩,
      ⟨(some 14), none, .mv (.t 1), 0⟩,
      ⟨(some 15), none, .call 0 (.k (.fn (.func 61) [] [])) [.t 13, .t 14], 0⟩,
      ⟨(some 16), none, .bin .geq (.t 15) (.k (.i .i64 (0))), 0⟩])
    (.ite (.t 16) (.seq (.reg false [
      ⟨(some 4), none, .mv (.k (.i .i64 (2))), 0⟩,
      ⟨(some 5), none, .mv (.k (.i .i64 (0))), 0⟩])
    (.cut [4, 5] [] .ret)) (.skip)))
    (.cut [1, 2] [2] (.seq (.reg true [
      ⟨(some 17), none, .load (some 3) (.t 2), 0⟩,
      ⟨(some 18), none, .fadr 0 (.t 2), 0⟩,
      ⟨(some 19), none, .load none (.t 18), 2⟩,
      ⟨(some 20), none, .mv (.t 1), 0⟩,
      ⟨(some 21), none, .bin .shl (.k (.i .u64 (1))) (.t 20), 8⟩,
      ⟨(some 22), none, .build [.i .i64 (0), .i .u64 (0), .i .u64 (0), .i .i64 (0)] [(0, 1, .t 19), (2, 1, .t 21)], 30⟩,
      ⟨(some 23), none, .call 0 (.k (.fn (.func 75) [] [])) [.t 17, .t 22], 63⟩,
      ⟨(some 24), none, .fld 3 none (.t 23), 127⟩,
      ⟨(some 25), none, .bin .quo (.t 24) (.k (.i .i64 (2))), 255⟩,
      ⟨(some 4), none, .mv (.t 25), 511⟩,
      ⟨(some 5), none, .mv (.k (.i .i64 (0))), 1023⟩])
    (.cut [4, 5] [] .ret))))))⟩

theorem ok58 : okFn Tryd.prog 3 Tryd.f58 a58 = true := by kernel_rfl

/-- phasor/odds.Choose -/
def a59 : AFn := ⟨3, 52, [.t 6, .t 7],
    .seq (.reg false [
      ⟨(some 6), none, .mv (.k (.i .i64 (0))), 0⟩,
      ⟨(some 7), none, .mv (.k (.i .i64 (0))), 0⟩])
    (.seq (.reg false [
      ⟨(some 9), none, .mv (.t 0), 0⟩,
      ⟨(some 10), none, .mv (.t 1), 0⟩,
      ⟨(some 11), none, .pop (.fbin .add) [.t 9, .t 10], 0⟩,
      ⟨(some 8), none, .mv (.t 11), 0⟩])
    (.seq (.blk 0 (.seq (.reg false [
      ⟨(some 13), none, .mv (.t 0), 0⟩,
      ⟨(some 14), none, .call 0 (.k (.fn (.func 76) [] [])) [.t 13], 0⟩,
      ⟨(some 15), none, .un .not (.t 14), 0⟩,
      ⟨(some 16), none, .mv (.t 15), 0⟩,
      ⟨(some 17), (some (16, false)), .mv (.t 1), 0⟩,
      ⟨(some 18), (some (16, false)), .call 0 (.k (.fn (.func 76) [] [])) [.t 17], 0⟩,
      ⟨(some 19), (some (16, false)), .un .not (.t 18), 0⟩,
      ⟨(some 20), none, .pick (.t 16) (.k (.b true)) (.t 19), 0⟩,
      ⟨(some 21), none, .mv (.t 20), 0⟩,
      ⟨(some 22), (some (21, false)), .mv (.t 8), 0⟩,
      ⟨(some 23), (some (21, false)), .call 0 (.k (.fn (.func 76) [] [])) [.t 22], 0⟩,
      ⟨(some 24), (some (21, false)), .un .not (.t 23), 0⟩,
      ⟨(some 25), none, .pick (.t 21) (.k (.b true)) (.t 24), 0⟩,
      ⟨(some 26), none, .mv (.t 25), 0⟩,
      ⟨(some 27), (some (26, false)), .mv (.t 8), 0⟩,
      ⟨(some 28), (some (26, false)), .pop (.fcmp .eql) [.t 27, .k (.f .f64 0)], 0⟩,
      ⟨(some 29), none, .pick (.t 26) (.k (.b true)) (.t 28), 0⟩,
      ⟨(some 30), none, .mv (.t 29), 0⟩,
      ⟨(some 31), (some (30, false)), .mv (.t 2), 0⟩,
      ⟨(some 32), (some (30, false)), .pop (.fcmp .geq) [.t 31, .k (.f .f64 0)], 0⟩,
      ⟨(some 33), (some (30, false)), .mv (.t 32), 0⟩,
      ⟨(some 34), (some (33, true)), .mv (.t 2), 0⟩,
      ⟨(some 35), (some (33, true)), .pop (.fcmp .lss) [.t 34, .k (.f .f64 4607182418800017408)], 0⟩,
      ⟨(some 36), (some (30, false)), .pick (.t 33) (.t 35) (.k (.b false)), 0⟩,
      ⟨(some 37), (some (30, false)), .un .not (.t 36), 0⟩,
      ⟨(some 38), none, .pick (.t 30) (.k (.b true)) (.t 37), 0⟩,
      ⟨(some 12), none, .mv (.t 38), 0⟩])
    (.ite (.t 12) (.seq (.reg false [
      ⟨(some 6), none, .mv (.k (.i .i64 (0))), 0⟩,
      ⟨(some 7), none, .mv (.k (.i .i64 (110))), 0⟩])
    (.cut [6, 7] [] .ret)) (.seq (.reg false [
      ⟨(some 40), none, .mv (.t 1), 0⟩,
      ⟨(some 41), none, .pop (.fcmp .eql) [.t 40, .k (.f .f64 0)], 0⟩,
      ⟨(some 39), none, .mv (.t 41), 0⟩])
    (.ite (.t 39) (.seq (.reg false [
      ⟨(some 6), none, .mv (.k (.i .i64 (0))), 0⟩,
      ⟨(some 7), none, .mv (.k (.i .i64 (0))), 0⟩])
    (.cut [6, 7] [] .ret)) (.seq (.reg false [
      ⟨(some 43), none, .mv (.t 0), 0⟩,
      ⟨(some 44), none, .pop (.fcmp .eql) [.t 43, .k (.f .f64 0)], 0⟩,
      ⟨(some 45), none, .mv (.t 44), 0⟩,
      ⟨(some 46), (some (45, false)), .mv (.t 2), 0⟩,
      ⟨(some 47), (some (45, false)), .mv (.t 8), 0⟩,
      ⟨(some 48), (some (45, false)), .pop (.fbin .mul) [.t 46, .t 47], 0⟩,
      ⟨(some 49), (some (45, false)), .mv (.t 1), 0⟩,
      ⟨(some 50), (some (45, false)), .pop (.fcmp .lss) [.t 48, .t 49], 0⟩,
      ⟨(some 51), none, .pick (.t 45) (.k (.b true)) (.t 50), 0⟩,
      ⟨(some 42), none, .mv (.t 51), 0⟩])
    (.ite (.t 42) (.seq (.reg false [
      ⟨(some 6), none, .mv (.k (.i .i64 (1))), 0⟩,
      ⟨(some 7), none, .mv (.k (.i .i64 (0))), 0⟩])
    (.cut [6, 7] [] .ret)) (.skip))))))))
    (.cut [] [] (.seq (.reg false [
      ⟨(some 6), none, .mv (.k (.i .i64 (0))), 0⟩,
      ⟨(some 7), none, .mv (.k (.i .i64 (0))), 0⟩])
    (.cut [6, 7] [] .ret)))))⟩

theorem ok59 : okFn Tryd.prog 3 Tryd.f59 a59 = true := by kernel_rfl

/-- phasor/tableau.replaced -/
def a60 : AFn := ⟨3, 35, [.cell 6 (some 3)],
    .seq (.reg false [
      ⟨(some 3), none, .box false 30 (.t 0), 0⟩,
      ⟨(some 4), none, .box false 3 (.t 1), 0⟩,
      ⟨(some 5), none, .box false 67 (.t 2), 0⟩,
      ⟨(some 6), none, .alloc true 30 [.i .i64 (0), .sl none 0 (.ex 0), .sl none 0 (.ex 0)], 0⟩])
    (.seq (.reg false [
      ⟨(some 9), none, .load (some 3) (.t 3), 0⟩,
      ⟨(some 10), none, .call 1 (.k (.fn (.func 55) [] [])) [.t 9], 0⟩,
      ⟨(some 7), none, .alloc true 30 [.i .i64 (0), .sl none 0 (.ex 0), .sl none 0 (.ex 0)], 0⟩,
      ⟨none, none, .store 3 (.t 7) (.t 10), 0⟩])
    (.seq (.reg false [
      ⟨(some 11), none, .mkf (.func 77) [] [.t 4, .t 5, .t 3], 0⟩,
      ⟨(some 8), none, .mv (.t 11), 0⟩])
    (.seq (.reg false [
      ⟨(some 12), none, .mv (.t 8), 0⟩,
      ⟨(some 13), none, .fadr 1 (.t 7), 0⟩,
      ⟨(some 14), none, .load none (.t 13), 0⟩,
      ⟨(some 15), none, .call 2 (.t 12) [.t 14], 0⟩])
    (.seq (.reg false [
      ⟨(some 16), none, .mv (.t 8), 0⟩,
      ⟨(some 17), none, .fadr 2 (.t 7), 0⟩,
      ⟨(some 18), none, .load none (.t 17), 0⟩,
      ⟨(some 19), none, .call 2 (.t 16) [.t 18], 0⟩])
    (.seq (.reg true [
      ⟨(some 20), none, .fadr 2 (.t 7), 0⟩,
      ⟨(some 21), none, .load none (.t 20), 1⟩,
      ⟨(some 22), none, .load none (.t 4), 0⟩,
      ⟨(some 23), none, .fadr 1 (.t 7), 0⟩,
      ⟨(some 24), none, .load none (.t 23), 8⟩,
      ⟨(some 25), none, .load none (.t 4), 0⟩,
      ⟨(some 26), none, .fadr 1 (.t 3), 0⟩,
      ⟨(some 27), none, .load none (.t 26), 64⟩,
      ⟨(some 28), none, .load none (.t 4), 0⟩,
      ⟨(some 29), none, .iadr 4 (.t 27) (.t 28), 448⟩,
      ⟨(some 30), none, .load (some 4) (.t 29), 960⟩,
      ⟨(some 31), none, .load (some 4) (.t 5), 0⟩,
      ⟨(some 32), none, .iadr 4 (.t 21) (.t 22), 1991⟩,
      ⟨none, none, .store 4 (.t 32) (.t 30), 6087⟩,
      ⟨(some 33), none, .iadr 4 (.t 24) (.t 25), 16383⟩,
      ⟨none, none, .store 4 (.t 33) (.t 31), 32767⟩])
    (.seq (.reg false [
      ⟨(some 34), none, .load (some 3) (.t 7), 0⟩,
      ⟨none, none, .store 3 (.t 6) (.t 34), 0⟩])
    (.cut [6] [6] .ret)))))))⟩

theorem ok60 : okFn Tryd.prog 3 Tryd.f60 a60 = true := by kernel_rfl

/-- phasor/tableau.open -/
def a61 : AFn := ⟨2, 9, [.t 4],
    .seq (.reg false [
      ⟨(some 2), none, .box true 30 (.t 0), 0⟩,
      ⟨(some 3), none, .box false 3 (.t 1), 0⟩,
      ⟨(some 4), none, .mv (.k (.i .i64 (0))), 0⟩])
    (.seq (.reg false [
      ⟨(some 5), none, .fadr 1 (.t 2), 0⟩,
      ⟨(some 6), none, .load none (.t 5), 0⟩,
      ⟨(some 7), none, .mkf (.func 80) [] [.t 3], 0⟩,
      ⟨(some 8), none, .call 0 (.k (.fn (.func 79) [] [])) [.t 6, .t 7], 0⟩,
      ⟨(some 4), none, .mv (.t 8), 0⟩])
    (.cut [4] [] .ret))⟩

theorem ok61 : okFn Tryd.prog 3 Tryd.f61 a61 = true := by kernel_rfl

/-- slices.Contains[[]int,int] -/
def a62 : AFn := ⟨2, 9, [.t 4],
    .seq (.reg false [
      ⟨(some 4), none, .mv (.k (.b false)), 0⟩])
    (.seq (.reg false [
      ⟨(some 5), none, .mv (.t 0), 0⟩,
      ⟨(some 6), none, .mv (.t 1), 0⟩,
      ⟨(some 7), none, .call 0 (.k (.fn (.func 81) [] [])) [.t 5, .t 6], 0⟩,
      ⟨(some 8), none, .bin .geq (.t 7) (.k (.i .i64 (0))), 0⟩,
      ⟨(some 4), none, .mv (.t 8), 0⟩])
    (.cut [4] [] .ret))⟩

theorem ok62 : okFn Tryd.prog 3 Tryd.f62 a62 = true := by kernel_rfl

def a63L0 : AC :=
    .cut [0, 1, 7, 8] [] (.seq (.reg false [
      ⟨(some 9), none, .bin .lss (.t 8) (.t 7), 0⟩])
    (.seq (.ite (.t 9) (.skip) (.cut [] [] (.exit 0)))
    (.cut [0, 1, 7, 8] [] (.seq (.blk 1 (.seq (.reg false [
      ⟨(some 10), none, .mv (.t 8), 0⟩,
      ⟨(some 5), none, .mv (.t 10), 0⟩])
    (.seq (.reg false [
      ⟨(some 11), none, .mv (.t 1), 0⟩,
      ⟨(some 12), none, .mv (.t 0), 0⟩,
      ⟨(some 13), none, .mv (.t 5), 0⟩,
      ⟨(some 14), none, .iadr 6 (.t 12) (.t 13), 0⟩,
      ⟨(some 15), none, .load (some 6) (.t 14), 0⟩,
      ⟨(some 16), none, .call 0 (.t 11) [.t 15], 0⟩])
    (.ite (.t 16) (.seq (.reg false [
      ⟨(some 17), none, .mv (.t 5), 0⟩,
      ⟨(some 4), none, .mv (.t 17), 0⟩])
    (.cut [4] [] .ret)) (.skip)))))
    (.cut [0, 1, 7, 8] [] (.reg false [
      ⟨(some 18), none, .bin .add (.t 8) (.k (.i .i64 (1))), 0⟩,
      ⟨(some 8), none, .mv (.t 18), 0⟩]))))))
/-- slices.IndexFunc[[]phasor/api.Op,phasor/api.Op] -/
def a63 : AFn := ⟨2, 19, [.t 4],
    .seq (.reg false [
      ⟨(some 4), none, .mv (.k (.i .i64 (0))), 0⟩])
    (.seq (.seq (.reg false [
      ⟨(some 6), none, .mv (.t 0), 0⟩,
      ⟨(some 7), none, .len false (.t 6), 0⟩,
      ⟨(some 8), none, .mv (.k (.i .i64 (0))), 0⟩])
    (.blk 0 (.loop a63L0)))
    (.cut [] [] (.seq (.reg false [
      ⟨(some 4), none, .mv (.k (.i .i64 (-1))), 0⟩])
    (.cut [4] [] .ret))))⟩

theorem ok63 : okFn Tryd.prog 3 Tryd.f63 a63 = true := by kernel_rfl

/-- math/bits.Len -/
def a64 : AFn := ⟨1, 8, [.t 2],
    .seq (.reg false [
      ⟨(some 2), none, .mv (.k (.i .i64 (0))), 0⟩])
    (.seq (.ite (.k (.b false)) (.seq (.reg false [
      ⟨(some 3), none, .mv (.t 0), 0⟩,
      ⟨(some 4), none, .conv .u32 (.t 3), 0⟩,
      ⟨(some 5), none, .call 0 (.k (.fn (.func 82) [] [])) [.t 4], 0⟩,
      ⟨(some 2), none, .mv (.t 5), 0⟩])
    (.cut [2] [] .ret)) (.skip))
    (.cut [0] [] (.seq (.reg false [
      ⟨(some 6), none, .mv (.t 0), 0⟩,
      ⟨(some 7), none, .call 0 (.k (.fn (.func 83) [] [])) [.t 6], 0⟩,
      ⟨(some 2), none, .mv (.t 7), 0⟩])
    (.cut [2] [] .ret))))⟩

theorem ok64 : okFn Tryd.prog 3 Tryd.f64 a64 = true := by kernel_rfl

/-- phasor/pauli.Check -/
def a65 : AFn := ⟨1, 37, [.t 2],
    .seq (.reg false [
      ⟨(some 1), none, .box true 67 (.t 0), 0⟩,
      ⟨(some 2), none, .mv (.k (.i .i64 (0))), 0⟩])
    (.seq (.seq (.reg false [
      ⟨(some 3), none, .fadr 0 (.t 1), 0⟩,
      ⟨(some 4), none, .load none (.t 3), 0⟩,
      ⟨(some 5), none, .bin .lss (.t 4) (.k (.i .i64 (0))), 0⟩,
      ⟨(some 6), none, .mv (.t 5), 0⟩,
      ⟨(some 7), (some (6, false)), .fadr 0 (.t 1), 0⟩,
      ⟨(some 8), (some (6, false)), .load none (.t 7), 0⟩,
      ⟨(some 9), (some (6, false)), .bin .gtr (.t 8) (.k (.i .i64 (64))), 0⟩,
      ⟨(some 10), none, .pick (.t 6) (.k (.b true)) (.t 9), 0⟩,
      ⟨(some 11), none, .mv (.t 10), 0⟩,
      ⟨(some 12), (some (11, false)), .fadr 3 (.t 1), 0⟩,
      ⟨(some 13), (some (11, false)), .load none (.t 12), 0⟩,
      ⟨(some 14), (some (11, false)), .bin .lss (.t 13) (.k (.i .i64 (0))), 0⟩,
      ⟨(some 15), none, .pick (.t 11) (.k (.b true)) (.t 14), 0⟩,
      ⟨(some 16), none, .mv (.t 15), 0⟩,
      ⟨(some 17), (some (16, false)), .fadr 3 (.t 1), 0⟩,
      ⟨(some 18), (some (16, false)), .load none (.t 17), 0⟩,
      ⟨(some 19), (some (16, false)), .bin .gtr (.t 18) (.k (.i .i64 (3))), 0⟩,
      ⟨(some 20), none, .pick (.t 16) (.k (.b true)) (.t 19), 0⟩,
      ⟨(some 21), none, .mv (.t 20), 0⟩,
      ⟨(some 22), (some (21, false)), .fadr 0 (.t 1), 0⟩,
      ⟨(some 23), (some (21, false)), .load none (.t 22), 0⟩,
      ⟨(some 24), (some (21, false)), .bin .lss (.t 23) (.k (.i .i64 (64))), 0⟩,
      ⟨(some 25), (some (21, false)), .mv (.t 24), 0⟩,
      ⟨(some 26), (some (25, true)), .fadr 1 (.t 1), 0⟩,
      ⟨(some 27), (some (25, true)), .load none (.t 26), 0⟩,
      ⟨(some 28), (some (25, true)), .fadr 2 (.t 1), 0⟩,
      ⟨(some 29), (some (25, true)), .load none (.t 28), 0⟩,
      ⟨(some 30), (some (25, true)), .bin .or (.t 27) (.t 29), 0⟩,
      ⟨(some 31), (some (25, true)), .fadr 0 (.t 1), 0⟩,
      ⟨(some 32), (some (25, true)), .load none (.t 31), 0⟩,
      ⟨(some 33), (some (25, true)), .bin .shr (.t 30) (.t 32), 0⟩,
      ⟨(some 34), (some (25, true)), .bin .neq (.t 33) (.k (.i .u64 (0))), 0⟩,
      ⟨(some 35), (some (21, false)), .pick (.t 25) (.t 34) (.k (.b false)), 0⟩,
      ⟨(some 36), none, .pick (.t 21) (.k (.b true)) (.t 35), 0⟩])
    (.ite (.t 36) (.seq (.reg false [
      ⟨(some 2), none, .mv (.k (.i .i64 (130))), 0⟩])
    (.cut [2] [] .ret)) (.skip)))
    (.cut [] [] (.seq (.reg false [
      ⟨(some 2), none, .mv (.k (.i .i64 (0))), 0⟩])
    (.cut [2] [] .ret))))⟩

theorem ok65 : okFn Tryd.prog 3 Tryd.f65 a65 = true := by kernel_rfl

/-- phasor/plane.both -/
def a66 : AFn := ⟨2, 14, [.t 4],
    .seq (.reg false [
      ⟨(some 4), none, .mv (.k (.c .f64 0 0)), 0⟩])
    (.seq (.reg false [
      ⟨(some 5), none, .mv (.t 1), 0⟩,
      ⟨(some 6), none, .mv (.t 0), 0⟩,
      ⟨(some 7), none, .pop .re [.t 6], 0⟩,
      ⟨(some 8), none, .call 0 (.t 5) [.t 7], 0⟩,
      ⟨(some 9), none, .mv (.t 1), 0⟩,
      ⟨(some 10), none, .mv (.t 0), 0⟩,
      ⟨(some 11), none, .pop .im [.t 10], 0⟩,
      ⟨(some 12), none, .call 0 (.t 9) [.t 11], 0⟩,
      ⟨(some 13), none, .pop .mk [.t 8, .t 12], 0⟩,
      ⟨(some 4), none, .mv (.t 13), 0⟩])
    (.cut [4] [] .ret))⟩

theorem ok66 : okFn Tryd.prog 3 Tryd.f66 a66 = true := by kernel_rfl

/-- phasor/scalar.Plus -/
def a67 : AFn := ⟨1, 5, [.t 2],
    .seq (.reg false [
      ⟨(some 2), none, .mv (.k (.f .f64 0)), 0⟩])
    (.seq (.reg false [
      ⟨(some 3), none, .mv (.t 0), 0⟩,
      ⟨(some 4), none, .pop (.fbin .add) [.t 3, .k (.f .f64 0)], 0⟩,
      ⟨(some 2), none, .mv (.t 4), 0⟩])
    (.cut [2] [] .ret))⟩

theorem ok67 : okFn Tryd.prog 3 Tryd.f67 a67 = true := by kernel_rfl

/-- phasor/plane.Neg -/
def a68 : AFn := ⟨1, 10, [.t 2],
    .seq (.reg false [
      ⟨(some 2), none, .mv (.k (.c .f64 0 0)), 0⟩])
    (.seq (.reg false [
      ⟨(some 3), none, .mv (.t 0), 0⟩,
      ⟨(some 4), none, .pop .re [.t 3], 0⟩,
      ⟨(some 5), none, .pop .fneg [.t 4], 0⟩,
      ⟨(some 6), none, .mv (.t 0), 0⟩,
      ⟨(some 7), none, .pop .im [.t 6], 0⟩,
      ⟨(some 8), none, .pop .fneg [.t 7], 0⟩,
      ⟨(some 9), none, .pop .mk [.t 5, .t 8], 0⟩,
      ⟨(some 2), none, .mv (.t 9), 0⟩])
    (.cut [2] [] .ret))⟩

theorem ok68 : okFn Tryd.prog 3 Tryd.f68 a68 = true := by kernel_rfl

/-- phasor/gate.Arity -/
def a69 : AFn := ⟨1, 6, [.t 2],
    .seq (.reg false [
      ⟨(some 2), none, .mv (.k (.i .i64 (0))), 0⟩])
    (.seq (.reg false [
      ⟨(some 3), none, .mv (.t 0), 0⟩,
      ⟨(some 4), none, .call 0 (.k (.fn (.func 84) [] [])) [.t 3], 0⟩,
      ⟨(some 5), none, .fld 1 none (.t 4), 0⟩,
      ⟨(some 2), none, .mv (.t 5), 0⟩])
    (.cut [2] [] .ret))⟩

theorem ok69 : okFn Tryd.prog 3 Tryd.f69 a69 = true := by kernel_rfl

/-- phasor/pauli.images -/
def a70 : AFn := ⟨1, 25, [.t 2],
    .seq (.reg false [
      ⟨(some 2), none, .mv (.k (.sl none 0 (.ex 0))), 0⟩])
    (.seq (.reg false [
      ⟨(some 4), none, .bslice 9 1 2 [.s ⟨#[]⟩, .s ⟨#[]⟩] [(0, 1, .k (.s ⟨#[43, 88]⟩)), (1, 1, .k (.s ⟨#[43, 90]⟩))], 0⟩,
      ⟨(some 5), none, .bslice 9 1 2 [.s ⟨#[]⟩, .s ⟨#[]⟩] [(0, 1, .k (.s ⟨#[43, 88]⟩)), (1, 1, .k (.s ⟨#[45, 90]⟩))], 0⟩,
      ⟨(some 6), none, .bslice 9 1 2 [.s ⟨#[]⟩, .s ⟨#[]⟩] [(0, 1, .k (.s ⟨#[45, 88]⟩)), (1, 1, .k (.s ⟨#[45, 90]⟩))], 0⟩,
      ⟨(some 7), none, .bslice 9 1 2 [.s ⟨#[]⟩, .s ⟨#[]⟩] [(0, 1, .k (.s ⟨#[45, 88]⟩)), (1, 1, .k (.s ⟨#[43, 90]⟩))], 0⟩,
      ⟨(some 8), none, .bslice 9 1 2 [.s ⟨#[]⟩, .s ⟨#[]⟩] [(0, 1, .k (.s ⟨#[43, 89]⟩)), (1, 1, .k (.s ⟨#[43, 90]⟩))], 0⟩,
      ⟨(some 9), none, .bslice 9 1 2 [.s ⟨#[]⟩, .s ⟨#[]⟩] [(0, 1, .k (.s ⟨#[45, 89]⟩)), (1, 1, .k (.s ⟨#[43, 90]⟩))], 0⟩,
      ⟨(some 10), none, .bslice 9 1 2 [.s ⟨#[]⟩, .s ⟨#[]⟩] [(0, 1, .k (.s ⟨#[43, 88]⟩)), (1, 1, .k (.s ⟨#[45, 89]⟩))], 0⟩,
      ⟨(some 11), none, .bslice 9 1 2 [.s ⟨#[]⟩, .s ⟨#[]⟩] [(0, 1, .k (.s ⟨#[43, 88]⟩)), (1, 1, .k (.s ⟨#[43, 89]⟩))], 0⟩,
      ⟨(some 12), none, .bslice 9 1 2 [.s ⟨#[]⟩, .s ⟨#[]⟩] [(0, 1, .k (.s ⟨#[45, 90]⟩)), (1, 1, .k (.s ⟨#[43, 88]⟩))], 0⟩,
      ⟨(some 13), none, .bslice 9 1 2 [.s ⟨#[]⟩, .s ⟨#[]⟩] [(0, 1, .k (.s ⟨#[43, 90]⟩)), (1, 1, .k (.s ⟨#[45, 88]⟩))], 0⟩,
      ⟨(some 14), none, .bslice 9 1 4 [.s ⟨#[]⟩, .s ⟨#[]⟩, .s ⟨#[]⟩, .s ⟨#[]⟩] [(0, 1, .k (.s ⟨#[43, 88, 88]⟩)), (1, 1, .k (.s ⟨#[43, 90, 73]⟩)), (2, 1, .k (.s ⟨#[43, 73, 88]⟩)), (3, 1, .k (.s ⟨#[43, 90, 90]⟩))], 0⟩,
      ⟨(some 15), none, .bslice 9 1 4 [.s ⟨#[]⟩, .s ⟨#[]⟩, .s ⟨#[]⟩, .s ⟨#[]⟩] [(0, 1, .k (.s ⟨#[43, 88, 89]⟩)), (1, 1, .k (.s ⟨#[43, 90, 73]⟩)), (2, 1, .k (.s ⟨#[43, 90, 88]⟩)), (3, 1, .k (.s ⟨#[43, 90, 90]⟩))], 0⟩,
      ⟨(some 16), none, .bslice 9 1 4 [.s ⟨#[]⟩, .s ⟨#[]⟩, .s ⟨#[]⟩, .s ⟨#[]⟩] [(0, 1, .k (.s ⟨#[43, 88, 90]⟩)), (1, 1, .k (.s ⟨#[43, 90, 73]⟩)), (2, 1, .k (.s ⟨#[43, 90, 88]⟩)), (3, 1, .k (.s ⟨#[43, 73, 90]⟩))], 0⟩,
      ⟨(some 17), none, .bslice 9 1 4 [.s ⟨#[]⟩, .s ⟨#[]⟩, .s ⟨#[]⟩, .s ⟨#[]⟩] [(0, 1, .k (.s ⟨#[43, 73, 88]⟩)), (1, 1, .k (.s ⟨#[43, 73, 90]⟩)), (2, 1, .k (.s ⟨#[43, 88, 73]⟩)), (3, 1, .k (.s ⟨#[43, 90, 73]⟩))], 0⟩,
      ⟨(some 18), none, .bslice 9 1 4 [.s ⟨#[]⟩, .s ⟨#[]⟩, .s ⟨#[]⟩, .s ⟨#[]⟩] [(0, 1, .k (.s ⟨#[43, 90, 89]⟩)), (1, 1, .k (.s ⟨#[43, 73, 90]⟩)), (2, 1, .k (.s ⟨#[43, 89, 90]⟩)), (3, 1, .k (.s ⟨#[43, 90, 73]⟩))], 0⟩,
      ⟨(some 19), none, .bslice 9 1 4 [.s ⟨#[]⟩, .s ⟨#[]⟩, .s ⟨#[]⟩, .s ⟨#[]⟩] [(0, 1, .k (.s ⟨#[45, 90, 89]⟩)), (1, 1, .k (.s ⟨#[43, 73, 90]⟩)), (2, 1, .k (.s ⟨#[45, 89, 90]⟩)), (3, 1, .k (.s ⟨#[43, 90, 73]⟩))], 0⟩,
      ⟨(some 20), none, .bslice 9 1 4 [.s ⟨#[]⟩, .s ⟨#[]⟩, .s ⟨#[]⟩, .s ⟨#[]⟩] [(0, 1, .k (.s ⟨#[43, 90, 73]⟩)), (1, 1, .k (.s ⟨#[43, 88, 73]⟩)), (2, 1, .k (.s ⟨#[43, 73, 90]⟩)), (3, 1, .k (.s ⟨#[43, 73, 88]⟩))], 0⟩,
      ⟨(some 21), none, .build [.sl none 0 (.ex 0), .sl none 0 (.ex 0), .sl none 0 (.ex 0), .sl none 0 (.ex 0), .sl none 0 (.ex 0), .sl none 0 (.ex 0), .sl none 0 (.ex 0), .sl none 0 (.ex 0), .sl none 0 (.ex 0), .sl none 0 (.ex 0), .sl none 0 (.ex 0), .sl none 0 (.ex 0), .sl none 0 (.ex 0), .sl none 0 (.ex 0), .sl none 0 (.ex 0), .sl none 0 (.ex 0), .sl none 0 (.ex 0), .sl none 0 (.ex 0)] [(1, 1, .t 4), (2, 1, .t 5), (3, 1, .t 6), (4, 1, .t 7), (5, 1, .t 8), (6, 1, .t 9), (7, 1, .t 10), (8, 1, .t 11), (9, 1, .t 12), (10, 1, .t 13), (11, 1, .t 14), (12, 1, .t 15), (13, 1, .t 16), (14, 1, .t 17), (15, 1, .t 18), (16, 1, .t 19), (17, 1, .t 20)], 0⟩,
      ⟨(some 3), none, .alloc true 132 [.sl none 0 (.ex 0), .sl none 0 (.ex 0), .sl none 0 (.ex 0), .sl none 0 (.ex 0), .sl none 0 (.ex 0), .sl none 0 (.ex 0), .sl none 0 (.ex 0), .sl none 0 (.ex 0), .sl none 0 (.ex 0), .sl none 0 (.ex 0), .sl none 0 (.ex 0), .sl none 0 (.ex 0), .sl none 0 (.ex 0), .sl none 0 (.ex 0), .sl none 0 (.ex 0), .sl none 0 (.ex 0), .sl none 0 (.ex 0), .sl none 0 (.ex 0)], 0⟩,
      ⟨none, none, .store 18 (.t 3) (.t 21), 0⟩])
    (.seq (.reg false [
      ⟨(some 22), none, .mv (.t 0), 0⟩,
      ⟨(some 23), none, .iadra 1 18 (.t 3) (.t 22), 0⟩,
      ⟨(some 24), none, .load none (.t 23), 0⟩,
      ⟨(some 2), none, .mv (.t 24), 0⟩])
    (.cut [2] [] .ret)))⟩

theorem ok70 : okFn Tryd.prog 3 Tryd.f70 a70 = true := by kernel_rfl

/-- phasor/pauli.code -/
def a71 : AFn := ⟨2, 23, [.t 4],
    .seq (.reg false [
      ⟨(some 2), none, .box true 67 (.t 0), 0⟩,
      ⟨(some 4), none, .mv (.k (.i .i64 (0))), 0⟩])
    (.seq (.reg true [
      ⟨(some 7), none, .fadr 1 (.t 2), 0⟩,
      ⟨(some 8), none, .load none (.t 7), 1⟩,
      ⟨(some 9), none, .mv (.t 1), 0⟩,
      ⟨(some 10), none, .bin .shr (.t 8) (.t 9), 7⟩,
      ⟨(some 11), none, .bin .and (.t 10) (.k (.i .u64 (1))), 15⟩,
      ⟨(some 12), none, .conv .i64 (.t 11), 31⟩,
      ⟨(some 13), none, .fadr 2 (.t 2), 0⟩,
      ⟨(some 14), none, .load none (.t 13), 64⟩,
      ⟨(some 15), none, .mv (.t 1), 0⟩,
      ⟨(some 16), none, .bin .shr (.t 14) (.t 15), 448⟩,
      ⟨(some 17), none, .bin .and (.t 16) (.k (.i .u64 (1))), 960⟩,
      ⟨(some 18), none, .conv .i64 (.t 17), 1984⟩,
      ⟨(some 5), none, .mv (.t 12), 63⟩,
      ⟨(some 6), none, .mv (.t 18), 8191⟩])
    (.seq (.reg false [
      ⟨(some 19), none, .mv (.t 5), 0⟩,
      ⟨(some 20), none, .mv (.t 6), 0⟩,
      ⟨(some 21), none, .bin .mul (.k (.i .i64 (3))) (.t 20), 0⟩,
      ⟨(some 22), none, .bin .xor (.t 19) (.t 21), 0⟩,
      ⟨(some 4), none, .mv (.t 22), 0⟩])
    (.cut [4] [] .ret)))⟩

theorem ok71 : okFn Tryd.prog 3 Tryd.f71 a71 = true := by kernel_rfl

def a72L0 : AC :=
    .cut [2, 3, 4, 5, 6] [2, 3, 4] (.seq (.seq (.reg false [
      ⟨(some 24), none, .mv (.t 6), 0⟩,
      ⟨(some 25), none, .bin .neq (.t 24) (.k (.i .u64 (0))), 0⟩])
    (.ite (.t 25) (.skip) (.cut [2, 3, 4, 5] [2, 3, 4] (.exit 0))))
    (.cut [2, 3, 4, 5, 6] [2, 3, 4] (.seq (.blk 1 (.seq (.reg false [
      ⟨(some 30), none, .mv (.t 6), 0⟩,
      ⟨(some 31), none, .call 0 (.k (.fn (.func 85) [] [])) [.t 30], 0⟩,
      ⟨(some 7), none, .mv (.t 31), 0⟩])
    (.seq (.reg true [
      ⟨(some 32), none, .load (some 4) (.t 3), 0⟩,
      ⟨(some 33), none, .mv (.t 7), 0⟩,
      ⟨(some 34), none, .call 0 (.k (.fn (.func 71) [] [])) [.t 32, .t 33], 3⟩,
      ⟨(some 35), none, .load (some 4) (.t 2), 0⟩,
      ⟨(some 36), none, .mv (.t 7), 0⟩,
      ⟨(some 37), none, .call 0 (.k (.fn (.func 71) [] [])) [.t 35, .t 36], 31⟩,
      ⟨(some 38), none, .bin .sub (.t 34) (.t 37), 63⟩,
      ⟨(some 39), none, .bin .add (.t 38) (.k (.i .i64 (3))), 127⟩,
      ⟨(some 40), none, .bin .rem (.t 39) (.k (.i .i64 (3))), 255⟩])
    (.blk 2 (.seq (.reg false [
      ⟨(some 42), none, .bin .eql (.t 40) (.k (.i .i64 (1))), 0⟩,
      ⟨(some 41), none, .mv (.t 42), 0⟩])
    (.ite (.t 41) (.reg false [
      ⟨(some 43), none, .mv (.t 5), 0⟩,
      ⟨(some 44), none, .bin .add (.t 43) (.k (.i .i64 (1))), 0⟩,
      ⟨(some 5), none, .mv (.t 44), 0⟩]) (.seq (.reg false [
      ⟨(some 46), none, .bin .eql (.t 40) (.k (.i .i64 (2))), 0⟩,
      ⟨(some 45), none, .mv (.t 46), 0⟩])
    (.ite (.t 45) (.reg false [
      ⟨(some 47), none, .mv (.t 5), 0⟩,
      ⟨(some 48), none, .bin .add (.t 47) (.k (.i .i64 (3))), 0⟩,
      ⟨(some 5), none, .mv (.t 48), 0⟩]) (.skip)))))))))
    (.cut [2, 3, 4, 5, 6] [2, 3, 4] (.reg false [
      ⟨(some 26), none, .mv (.t 6), 0⟩,
      ⟨(some 27), none, .mv (.t 6), 0⟩,
      ⟨(some 28), none, .bin .sub (.t 27) (.k (.i .u64 (1))), 0⟩,
      ⟨(some 29), none, .bin .and (.t 26) (.t 28), 0⟩,
      ⟨(some 6), none, .mv (.t 29), 0⟩])))))
/-- phasor/pauli.times -/
def a72 : AFn := ⟨2, 64, [.cell 4 (some 4)],
    .seq (.reg false [
      ⟨(some 2), none, .box true 67 (.t 0), 0⟩,
      ⟨(some 3), none, .box true 67 (.t 1), 0⟩,
      ⟨(some 4), none, .alloc true 67 [.i .i64 (0), .i .u64 (0), .i .u64 (0), .i .i64 (0)], 0⟩])
    (.seq (.reg false [
      ⟨(some 8), none, .fadr 3 (.t 2), 0⟩,
      ⟨(some 9), none, .load none (.t 8), 0⟩,
      ⟨(some 10), none, .fadr 3 (.t 3), 0⟩,
      ⟨(some 11), none, .load none (.t 10), 0⟩,
      ⟨(some 12), none, .bin .add (.t 9) (.t 11), 0⟩,
      ⟨(some 5), none, .mv (.t 12), 0⟩])
    (.seq (.seq (.reg false [
      ⟨(some 13), none, .fadr 1 (.t 2), 0⟩,
      ⟨(some 14), none, .load none (.t 13), 0⟩,
      ⟨(some 15), none, .fadr 2 (.t 2), 0⟩,
      ⟨(some 16), none, .load none (.t 15), 0⟩,
      ⟨(some 17), none, .bin .or (.t 14) (.t 16), 0⟩,
      ⟨(some 18), none, .fadr 1 (.t 3), 0⟩,
      ⟨(some 19), none, .load none (.t 18), 0⟩,
      ⟨(some 20), none, .fadr 2 (.t 3), 0⟩,
      ⟨(some 21), none, .load none (.t 20), 0⟩,
      ⟨(some 22), none, .bin .or (.t 19) (.t 21), 0⟩,
      ⟨(some 23), none, .bin .and (.t 17) (.t 22), 0⟩,
      ⟨(some 6), none, .mv (.t 23), 0⟩])
    (.blk 0 (.loop a72L0)))
    (.cut [2, 3, 4, 5] [2, 3, 4] (.seq (.reg false [
      ⟨(some 49), none, .fadr 0 (.t 2), 0⟩,
      ⟨(some 50), none, .load none (.t 49), 0⟩,
      ⟨(some 51), none, .fadr 1 (.t 2), 0⟩,
      ⟨(some 52), none, .load none (.t 51), 0⟩,
      ⟨(some 53), none, .fadr 1 (.t 3), 0⟩,
      ⟨(some 54), none, .load none (.t 53), 0⟩,
      ⟨(some 55), none, .bin .xor (.t 52) (.t 54), 0⟩,
      ⟨(some 56), none, .fadr 2 (.t 2), 0⟩,
      ⟨(some 57), none, .load none (.t 56), 0⟩,
      ⟨(some 58), none, .fadr 2 (.t 3), 0⟩,
      ⟨(some 59), none, .load none (.t 58), 0⟩,
      ⟨(some 60), none, .bin .xor (.t 57) (.t 59), 0⟩,
      ⟨(some 61), none, .mv (.t 5), 0⟩,
      ⟨(some 62), none, .bin .rem (.t 61) (.k (.i .i64 (4))), 0⟩,
      ⟨(some 63), none, .build [.i .i64 (0), .i .u64 (0), .i .u64 (0), .i .i64 (0)] [(0, 1, .t 50), (1, 1, .t 55), (2, 1, .t 60), (3, 1, .t 62)], 0⟩,
      ⟨none, none, .store 4 (.t 4) (.t 63), 0⟩])
    (.cut [4] [4] .ret)))))⟩

theorem ok72 : okFn Tryd.prog 3 Tryd.f72 a72 = true := by kernel_rfl

def a73L0 : AC :=
    .cut [0, 6, 7, 17, 18, 19] [6, 7] (.seq (.reg false [
      ⟨(some 20), none, .bin .lss (.t 19) (.t 18), 0⟩])
    (.seq (.ite (.t 20) (.skip) (.cut [6, 7] [6, 7] (.exit 0)))
    (.cut [0, 6, 7, 17, 18, 19] [6, 7] (.seq (.blk 1 (.seq (.reg false [
      ⟨(some 21), none, .mv (.t 19), 0⟩,
      ⟨(some 22), none, .iadr 1 (.t 17) (.t 19), 0⟩,
      ⟨(some 23), none, .load none (.t 22), 0⟩,
      ⟨(some 8), none, .mv (.t 21), 0⟩,
      ⟨(some 9), none, .mv (.t 23), 0⟩])
    (.seq (.reg false [
      ⟨(some 24), none, .mv (.t 0), 0⟩,
      ⟨(some 25), none, .mv (.t 8), 0⟩,
      ⟨(some 26), none, .bin .add (.t 25) (.k (.i .i64 (1))), 0⟩,
      ⟨(some 27), none, .idxs (.t 24) (.t 26), 0⟩,
      ⟨(some 28), none, .call 0 (.k (.fn (.func 86) [] [])) [.k (.s ⟨#[73, 88, 89, 90]⟩), .t 27], 0⟩,
      ⟨(some 10), none, .mv (.t 28), 0⟩])
    (.seq (.seq (.reg false [
      ⟨(some 29), none, .mv (.t 10), 0⟩,
      ⟨(some 30), none, .bin .eql (.t 29) (.k (.i .i64 (1))), 0⟩,
      ⟨(some 31), none, .mv (.t 30), 0⟩,
      ⟨(some 32), (some (31, false)), .mv (.t 10), 0⟩,
      ⟨(some 33), (some (31, false)), .bin .eql (.t 32) (.k (.i .i64 (2))), 0⟩,
      ⟨(some 34), none, .pick (.t 31) (.k (.b true)) (.t 33), 0⟩])
    (.ite (.t 34) (.reg true [
      ⟨(some 35), none, .fadr 1 (.t 7), 0⟩,
      ⟨(some 36), none, .load none (.t 35), 1⟩,
      ⟨(some 37), none, .mv (.t 9), 0⟩,
      ⟨(some 38), none, .bin .shl (.k (.i .u64 (1))) (.t 37), 4⟩,
      ⟨(some 39), none, .bin .or (.t 36) (.t 38), 15⟩,
      ⟨(some 40), none, .fadr 1 (.t 7), 31⟩,
      ⟨none, none, .store 1 (.t 40) (.t 39), 63⟩]) (.skip)))
    (.cut [0, 6, 7, 9, 10, 17, 18, 19] [6, 7] (.seq (.reg false [
      ⟨(some 41), none, .mv (.t 10), 0⟩,
      ⟨(some 42), none, .bin .geq (.t 41) (.k (.i .i64 (2))), 0⟩])
    (.ite (.t 42) (.reg true [
      ⟨(some 43), none, .fadr 2 (.t 7), 0⟩,
      ⟨(some 44), none, .load none (.t 43), 1⟩,
      ⟨(some 45), none, .mv (.t 9), 0⟩,
      ⟨(some 46), none, .bin .shl (.k (.i .u64 (1))) (.t 45), 4⟩,
      ⟨(some 47), none, .bin .or (.t 44) (.t 46), 15⟩,
      ⟨(some 48), none, .fadr 2 (.t 7), 31⟩,
      ⟨none, none, .store 1 (.t 48) (.t 47), 63⟩]) (.skip))))))))
    (.cut [0, 6, 7, 17, 18, 19] [6, 7] (.reg false [
      ⟨(some 49), none, .bin .add (.t 19) (.k (.i .i64 (1))), 0⟩,
      ⟨(some 19), none, .mv (.t 49), 0⟩]))))))
/-- phasor/pauli.spread -/
def a73 : AFn := ⟨3, 51, [.cell 6 (some 4)],
    .seq (.reg false [
      ⟨(some 6), none, .alloc true 67 [.i .i64 (0), .i .u64 (0), .i .u64 (0), .i .i64 (0)], 0⟩])
    (.seq (.reg false [
      ⟨(some 11), none, .mv (.t 1), 0⟩,
      ⟨(some 12), none, .build [.i .i64 (0), .i .u64 (0), .i .u64 (0), .i .i64 (0)] [(0, 1, .t 11)], 0⟩,
      ⟨(some 7), none, .alloc true 67 [.i .i64 (0), .i .u64 (0), .i .u64 (0), .i .i64 (0)], 0⟩,
      ⟨none, none, .store 4 (.t 7) (.t 12), 0⟩])
    (.seq (.seq (.reg false [
      ⟨(some 13), none, .mv (.t 0), 0⟩,
      ⟨(some 14), none, .idxs (.t 13) (.k (.i .i64 (0))), 0⟩,
      ⟨(some 15), none, .bin .eql (.t 14) (.k (.i .u8 (45))), 0⟩])
    (.ite (.t 15) (.reg false [
      ⟨(some 16), none, .fadr 3 (.t 7), 0⟩,
      ⟨none, none, .store 1 (.t 16) (.k (.i .i64 (2))), 0⟩]) (.skip)))
    (.cut [0, 2, 6, 7] [6, 7] (.seq (.seq (.reg false [
      ⟨(some 17), none, .mv (.t 2), 0⟩,
      ⟨(some 18), none, .len false (.t 17), 0⟩,
      ⟨(some 19), none, .mv (.k (.i .i64 (0))), 0⟩])
    (.blk 0 (.loop a73L0)))
    (.cut [6, 7] [6, 7] (.seq (.reg false [
      ⟨(some 50), none, .load (some 4) (.t 7), 0⟩,
      ⟨none, none, .store 4 (.t 6) (.t 50), 0⟩])
    (.cut [6] [6] .ret)))))))⟩

theorem ok73 : okFn Tryd.prog 3 Tryd.f73 a73 = true := by kernel_rfl

/-- phasor/tableau.asked -/
def a74 : AFn := ⟨2, 19, [.t 4],
    .seq (.reg false [
      ⟨(some 2), none, .box true 30 (.t 0), 0⟩,
      ⟨(some 4), none, .mv (.k (.i .i64 (0))), 0⟩])
    (.seq (.seq (.reg false [
      ⟨(some 6), none, .load (some 3) (.t 2), 0⟩,
      ⟨(some 7), none, .call 0 (.k (.fn (.func 31) [] [])) [.t 6], 0⟩,
      ⟨(some 5), none, .mv (.t 7), 0⟩])
    (.seq (.reg false [
      ⟨(some 8), none, .mv (.t 5), 0⟩,
      ⟨(some 9), none, .bin .neq (.t 8) (.k (.i .i64 (0))), 0⟩])
    (.ite (.t 9) (.seq (.reg false [
      ⟨(some 10), none, .mv (.t 5), 0⟩,
      ⟨(some 4), none, .mv (.t 10), 0⟩])
    (.cut [4] [] .ret)) (.skip))))
    (.cut [1, 2] [2] (.seq (.seq (.reg false [
      ⟨(some 11), none, .mv (.t 1), 0⟩,
      ⟨(some 12), none, .bin .lss (.t 11) (.k (.i .i64 (0))), 0⟩,
      ⟨(some 13), none, .mv (.t 12), 0⟩,
      ⟨(some 14), (some (13, false)), .mv (.t 1), 0⟩,
      ⟨(some 15), (some (13, false)), .fadr 0 (.t 2), 0⟩,
      ⟨(some 16), (some (13, false)), .load none (.t 15), 0⟩,
      ⟨(some 17), (some (13, false)), .bin .geq (.t 14) (.t 16), 0⟩,
      ⟨(some 18), none, .pick (.t 13) (.k (.b true)) (.t 17), 0⟩])
    (.ite (.t 18) (.seq (.reg false [
      ⟨(some 4), none, .mv (.k (.i .i64 (2))), 0⟩])
    (.cut [4] [] .ret)) (.skip)))
    (.cut [] [] (.seq (.reg false [
      ⟨(some 4), none, .mv (.k (.i .i64 (0))), 0⟩])
    (.cut [4] [] .ret))))))⟩

theorem ok74 : okFn Tryd.prog 3 Tryd.f74 a74 = true := by kernel_rfl

def a75L0 : AC :=
    .cut [2, 3, 4, 5, 12, 13, 14] [2, 3, 4, 5] (.seq (.reg false [
      ⟨(some 15), none, .bin .lss (.t 14) (.t 13), 0⟩])
    (.seq (.ite (.t 15) (.skip) (.cut [4, 5] [4, 5] (.exit 0)))
    (.cut [2, 3, 4, 5, 12, 13, 14] [2, 3, 4, 5] (.seq (.blk 1 (.seq (.reg false [
      ⟨(some 16), none, .mv (.t 14), 0⟩,
      ⟨(some 17), none, .iadr 4 (.t 12) (.t 14), 0⟩,
      ⟨(some 18), none, .load (some 4) (.t 17), 0⟩,
      ⟨(some 7), none, .alloc true 67 [.i .i64 (0), .i .u64 (0), .i .u64 (0), .i .i64 (0)], 0⟩,
      ⟨(some 6), none, .mv (.t 16), 0⟩,
      ⟨none, none, .store 4 (.t 7) (.t 18), 0⟩])
    (.seq (.reg false [
      ⟨(some 19), none, .load (some 4) (.t 7), 0⟩,
      ⟨(some 20), none, .load (some 4) (.t 3), 0⟩,
      ⟨(some 21), none, .call 0 (.k (.fn (.func 47) [] [])) [.t 19, .t 20], 0⟩,
      ⟨(some 22), none, .un .not (.t 21), 0⟩])
    (.ite (.t 22) (.reg true [
      ⟨(some 23), none, .load (some 4) (.t 5), 0⟩,
      ⟨(some 24), none, .fadr 1 (.t 2), 0⟩,
      ⟨(some 25), none, .load none (.t 24), 2⟩,
      ⟨(some 26), none, .mv (.t 6), 0⟩,
      ⟨(some 27), none, .iadr 4 (.t 25) (.t 26), 14⟩,
      ⟨(some 28), none, .load (some 4) (.t 27), 30⟩,
      ⟨(some 29), none, .call 0 (.k (.fn (.func 78) [] [])) [.t 23, .t 28], 63⟩,
      ⟨none, none, .store 4 (.t 5) (.t 29), 127⟩]) (.skip)))))
    (.cut [2, 3, 4, 5, 12, 13, 14] [2, 3, 4, 5] (.reg false [
      ⟨(some 30), none, .bin .add (.t 14) (.k (.i .i64 (1))), 0⟩,
      ⟨(some 14), none, .mv (.t 30), 0⟩]))))))
/-- phasor/tableau.sure -/
def a75 : AFn := ⟨2, 32, [.cell 4 (some 4)],
    .seq (.reg false [
      ⟨(some 2), none, .box true 30 (.t 0), 0⟩,
      ⟨(some 3), none, .box true 67 (.t 1), 0⟩,
      ⟨(some 4), none, .alloc true 67 [.i .i64 (0), .i .u64 (0), .i .u64 (0), .i .i64 (0)], 0⟩])
    (.seq (.reg false [
      ⟨(some 8), none, .fadr 0 (.t 2), 0⟩,
      ⟨(some 9), none, .load none (.t 8), 0⟩,
      ⟨(some 10), none, .build [.i .i64 (0), .i .u64 (0), .i .u64 (0), .i .i64 (0)] [(0, 1, .t 9)], 0⟩,
      ⟨(some 5), none, .alloc true 67 [.i .i64 (0), .i .u64 (0), .i .u64 (0), .i .i64 (0)], 0⟩,
      ⟨none, none, .store 4 (.t 5) (.t 10), 0⟩])
    (.seq (.seq (.reg false [
      ⟨(some 11), none, .fadr 2 (.t 2), 0⟩,
      ⟨(some 12), none, .load none (.t 11), 0⟩,
      ⟨(some 13), none, .len false (.t 12), 0⟩,
      ⟨(some 14), none, .mv (.k (.i .i64 (0))), 0⟩])
    (.blk 0 (.loop a75L0)))
    (.cut [4, 5] [4, 5] (.seq (.reg false [
      ⟨(some 31), none, .load (some 4) (.t 5), 0⟩,
      ⟨none, none, .store 4 (.t 4) (.t 31), 0⟩])
    (.cut [4] [4] .ret)))))⟩

theorem ok75 : okFn Tryd.prog 3 Tryd.f75 a75 = true := by kernel_rfl

/-- phasor/odds.fair -/
def a76 : AFn := ⟨1, 10, [.t 2],
    .seq (.reg false [
      ⟨(some 2), none, .mv (.k (.b false)), 0⟩])
    (.seq (.reg false [
      ⟨(some 3), none, .mv (.t 0), 0⟩,
      ⟨(some 4), none, .pop (.fcmp .geq) [.t 3, .k (.f .f64 0)], 0⟩,
      ⟨(some 5), none, .mv (.t 4), 0⟩,
      ⟨(some 6), (some (5, true)), .mv (.t 0), 0⟩,
      ⟨(some 7), (some (5, true)), .call 0 (.k (.fn (.func 87) [] [])) [.t 6, .k (.i .i64 (0))], 0⟩,
      ⟨(some 8), (some (5, true)), .un .not (.t 7), 0⟩,
      ⟨(some 9), none, .pick (.t 5) (.t 8) (.k (.b false)), 0⟩,
      ⟨(some 2), none, .mv (.t 9), 0⟩])
    (.cut [2] [] .ret))⟩

theorem ok76 : okFn Tryd.prog 3 Tryd.f76 a76 = true := by kernel_rfl

def a77L0 : AC :=
    .cut [0, 1, 2, 3, 7, 8, 9] [] (.seq (.reg false [
      ⟨(some 10), none, .bin .lss (.t 9) (.t 8), 0⟩])
    (.seq (.ite (.t 10) (.skip) (.cut [] [] (.exit 0)))
    (.cut [0, 1, 2, 3, 7, 8, 9] [] (.seq (.blk 1 (.seq (.reg false [
      ⟨(some 11), none, .mv (.t 9), 0⟩,
      ⟨(some 12), none, .iadr 4 (.t 7) (.t 9), 0⟩,
      ⟨(some 13), none, .load (some 4) (.t 12), 0⟩,
      ⟨(some 6), none, .alloc true 67 [.i .i64 (0), .i .u64 (0), .i .u64 (0), .i .i64 (0)], 0⟩,
      ⟨(some 5), none, .mv (.t 11), 0⟩,
      ⟨none, none, .store 4 (.t 6) (.t 13), 0⟩])
    (.seq (.reg false [
      ⟨(some 14), none, .mv (.t 5), 0⟩,
      ⟨(some 15), none, .load none (.t 1), 0⟩,
      ⟨(some 16), none, .bin .neq (.t 14) (.t 15), 0⟩,
      ⟨(some 17), none, .mv (.t 16), 0⟩,
      ⟨(some 18), (some (17, true)), .load (some 4) (.t 6), 0⟩,
      ⟨(some 19), (some (17, true)), .load (some 4) (.t 2), 0⟩,
      ⟨(some 20), (some (17, true)), .call 0 (.k (.fn (.func 47) [] [])) [.t 18, .t 19], 0⟩,
      ⟨(some 21), (some (17, true)), .un .not (.t 20), 0⟩,
      ⟨(some 22), none, .pick (.t 17) (.t 21) (.k (.b false)), 0⟩])
    (.ite (.t 22) (.reg true [
      ⟨(some 23), none, .mv (.t 0), 0⟩,
      ⟨(some 24), none, .mv (.t 5), 0⟩,
      ⟨(some 25), none, .load (some 4) (.t 6), 0⟩,
      ⟨(some 26), none, .fadr 1 (.t 3), 0⟩,
      ⟨(some 27), none, .load none (.t 26), 8⟩,
      ⟨(some 28), none, .load none (.t 1), 0⟩,
      ⟨(some 29), none, .iadr 4 (.t 27) (.t 28), 56⟩,
      ⟨(some 30), none, .load (some 4) (.t 29), 120⟩,
      ⟨(some 31), none, .call 0 (.k (.fn (.func 78) [] [])) [.t 25, .t 30], 252⟩,
      ⟨(some 32), none, .iadr 4 (.t 23) (.t 24), 511⟩,
      ⟨none, none, .store 4 (.t 32) (.t 31), 1023⟩]) (.skip)))))
    (.cut [0, 1, 2, 3, 7, 8, 9] [] (.reg false [
      ⟨(some 33), none, .bin .add (.t 9) (.k (.i .i64 (1))), 0⟩,
      ⟨(some 9), none, .mv (.t 33), 0⟩]))))))
/-- phasor/tableau.replaced$1 -/
def a77 : AFn := ⟨4, 34, [],
    .seq (.reg false [
      ⟨(some 7), none, .mv (.t 0), 0⟩,
      ⟨(some 8), none, .len false (.t 7), 0⟩,
      ⟨(some 9), none, .mv (.k (.i .i64 (0))), 0⟩])
    (.blk 0 (.loop a77L0))⟩

theorem ok77 : okFn Tryd.prog 3 Tryd.f77 a77 = true := by kernel_rfl

/-- phasor/tableau.mul -/
def a78 : AFn := ⟨2, 14, [.cell 4 (some 4)],
    .seq (.reg false [
      ⟨(some 2), none, .box true 67 (.t 0), 0⟩,
      ⟨(some 3), none, .box true 67 (.t 1), 0⟩,
      ⟨(some 4), none, .alloc true 67 [.i .i64 (0), .i .u64 (0), .i .u64 (0), .i .i64 (0)], 0⟩])
    (.seq (.reg false [
      ⟨(some 8), none, .load (some 4) (.t 2), 0⟩,
      ⟨(some 9), none, .load (some 4) (.t 3), 0⟩,
      ⟨(some 10), none, .call 0 (.k (.fn (.func 88) [] [])) [.t 8, .t 9], 0⟩,
      ⟨(some 7), none, .mv (.t 10), 0⟩,
      ⟨(some 11), none, .ext (.t 7) 0, 0⟩,
      ⟨(some 12), none, .ext (.t 7) 1, 0⟩,
      ⟨(some 5), none, .alloc true 67 [.i .i64 (0), .i .u64 (0), .i .u64 (0), .i .i64 (0)], 0⟩,
      ⟨none, none, .store 4 (.t 5) (.t 11), 0⟩,
      ⟨(some 6), none, .mv (.t 12), 0⟩])
    (.seq (.reg false [
      ⟨(some 13), none, .load (some 4) (.t 5), 0⟩,
      ⟨none, none, .store 4 (.t 4) (.t 13), 0⟩])
    (.cut [4] [4] .ret)))⟩

theorem ok78 : okFn Tryd.prog 3 Tryd.f78 a78 = true := by kernel_rfl

def a79L0 : AC :=
    .cut [0, 1, 7, 8] [] (.seq (.reg false [
      ⟨(some 9), none, .bin .lss (.t 8) (.t 7), 0⟩])
    (.seq (.ite (.t 9) (.skip) (.cut [] [] (.exit 0)))
    (.cut [0, 1, 7, 8] [] (.seq (.blk 1 (.seq (.reg false [
      ⟨(some 10), none, .mv (.t 8), 0⟩,
      ⟨(some 5), none, .mv (.t 10), 0⟩])
    (.seq (.reg false [
      ⟨(some 11), none, .mv (.t 1), 0⟩,
      ⟨(some 12), none, .mv (.t 0), 0⟩,
      ⟨(some 13), none, .mv (.t 5), 0⟩,
      ⟨(some 14), none, .iadr 4 (.t 12) (.t 13), 0⟩,
      ⟨(some 15), none, .load (some 4) (.t 14), 0⟩,
      ⟨(some 16), none, .call 0 (.t 11) [.t 15], 0⟩])
    (.ite (.t 16) (.seq (.reg false [
      ⟨(some 17), none, .mv (.t 5), 0⟩,
      ⟨(some 4), none, .mv (.t 17), 0⟩])
    (.cut [4] [] .ret)) (.skip)))))
    (.cut [0, 1, 7, 8] [] (.reg false [
      ⟨(some 18), none, .bin .add (.t 8) (.k (.i .i64 (1))), 0⟩,
      ⟨(some 8), none, .mv (.t 18), 0⟩]))))))
/-- slices.IndexFunc[[]phasor/api.Pauli,phasor/api.Pauli] -/
def a79 : AFn := ⟨2, 19, [.t 4],
    .seq (.reg false [
      ⟨(some 4), none, .mv (.k (.i .i64 (0))), 0⟩])
    (.seq (.seq (.reg false [
      ⟨(some 6), none, .mv (.t 0), 0⟩,
      ⟨(some 7), none, .len false (.t 6), 0⟩,
      ⟨(some 8), none, .mv (.k (.i .i64 (0))), 0⟩])
    (.blk 0 (.loop a79L0)))
    (.cut [] [] (.seq (.reg false [
      ⟨(some 4), none, .mv (.k (.i .i64 (-1))), 0⟩])
    (.cut [4] [] .ret))))⟩

theorem ok79 : okFn Tryd.prog 3 Tryd.f79 a79 = true := by kernel_rfl

/-- phasor/tableau.open$1 -/
def a80 : AFn := ⟨2, 10, [.t 3],
    .seq (.reg false [
      ⟨(some 2), none, .box true 67 (.t 0), 0⟩,
      ⟨(some 3), none, .mv (.k (.b false)), 0⟩])
    (.seq (.reg false [
      ⟨(some 4), none, .fadr 1 (.t 2), 0⟩,
      ⟨(some 5), none, .load none (.t 4), 0⟩,
      ⟨(some 6), none, .load none (.t 1), 0⟩,
      ⟨(some 7), none, .bin .shr (.t 5) (.t 6), 0⟩,
      ⟨(some 8), none, .bin .and (.t 7) (.k (.i .u64 (1))), 0⟩,
      ⟨(some 9), none, .bin .eql (.t 8) (.k (.i .u64 (1))), 0⟩,
      ⟨(some 3), none, .mv (.t 9), 0⟩])
    (.cut [3] [] .ret))⟩

theorem ok80 : okFn Tryd.prog 3 Tryd.f80 a80 = true := by kernel_rfl

def a81L0 : AC :=
    .cut [0, 1, 7, 8] [] (.seq (.reg false [
      ⟨(some 9), none, .bin .lss (.t 8) (.t 7), 0⟩])
    (.seq (.ite (.t 9) (.skip) (.cut [] [] (.exit 0)))
    (.cut [0, 1, 7, 8] [] (.seq (.blk 1 (.seq (.reg false [
      ⟨(some 10), none, .mv (.t 8), 0⟩,
      ⟨(some 5), none, .mv (.t 10), 0⟩])
    (.seq (.reg false [
      ⟨(some 11), none, .mv (.t 1), 0⟩,
      ⟨(some 12), none, .mv (.t 0), 0⟩,
      ⟨(some 13), none, .mv (.t 5), 0⟩,
      ⟨(some 14), none, .iadr 1 (.t 12) (.t 13), 0⟩,
      ⟨(some 15), none, .load none (.t 14), 0⟩,
      ⟨(some 16), none, .bin .eql (.t 11) (.t 15), 0⟩])
    (.ite (.t 16) (.seq (.reg false [
      ⟨(some 17), none, .mv (.t 5), 0⟩,
      ⟨(some 4), none, .mv (.t 17), 0⟩])
    (.cut [4] [] .ret)) (.skip)))))
    (.cut [0, 1, 7, 8] [] (.reg false [
      ⟨(some 18), none, .bin .add (.t 8) (.k (.i .i64 (1))), 0⟩,
      ⟨(some 8), none, .mv (.t 18), 0⟩]))))))
/-- slices.Index[[]int,int] -/
def a81 : AFn := ⟨2, 19, [.t 4],
    .seq (.reg false [
      ⟨(some 4), none, .mv (.k (.i .i64 (0))), 0⟩])
    (.seq (.seq (.reg false [
      ⟨(some 6), none, .mv (.t 0), 0⟩,
      ⟨(some 7), none, .len false (.t 6), 0⟩,
      ⟨(some 8), none, .mv (.k (.i .i64 (0))), 0⟩])
    (.blk 0 (.loop a81L0)))
    (.cut [] [] (.seq (.reg false [
      ⟨(some 4), none, .mv (.k (.i .i64 (-1))), 0⟩])
    (.cut [4] [] .ret))))⟩

theorem ok81 : okFn Tryd.prog 3 Tryd.f81 a81 = true := by kernel_rfl

/-- math/bits.Len32 -/
def a82 : AFn := ⟨1, 19, [.t 2],
    .seq (.reg false [
      ⟨(some 2), none, .mv (.k (.i .i64 (0))), 0⟩])
    (.seq (.seq (.reg false [
      ⟨(some 3), none, .mv (.t 0), 0⟩,
      ⟨(some 4), none, .bin .geq (.t 3) (.k (.i .u32 (65536))), 0⟩])
    (.ite (.t 4) (.seq (.reg false [
      ⟨(some 5), none, .mv (.t 0), 0⟩,
      ⟨(some 6), none, .bin .shr (.t 5) (.k (.i .u64 (16))), 0⟩,
      ⟨(some 0), none, .mv (.t 6), 0⟩])
    (.reg false [
      ⟨(some 2), none, .mv (.k (.i .i64 (16))), 0⟩])) (.skip)))
    (.cut [0, 2] [] (.seq (.seq (.reg false [
      ⟨(some 7), none, .mv (.t 0), 0⟩,
      ⟨(some 8), none, .bin .geq (.t 7) (.k (.i .u32 (256))), 0⟩])
    (.ite (.t 8) (.seq (.reg false [
      ⟨(some 9), none, .mv (.t 0), 0⟩,
      ⟨(some 10), none, .bin .shr (.t 9) (.k (.i .u64 (8))), 0⟩,
      ⟨(some 0), none, .mv (.t 10), 0⟩])
    (.reg false [
      ⟨(some 11), none, .mv (.t 2), 0⟩,
      ⟨(some 12), none, .bin .add (.t 11) (.k (.i .i64 (8))), 0⟩,
      ⟨(some 2), none, .mv (.t 12), 0⟩])) (.skip)))
    (.cut [0, 2] [] (.seq (.reg false [
      ⟨(some 13), none, .mv (.t 2), 0⟩,
      ⟨(some 14), none, .mv (.t 0), 0⟩,
      ⟨(some 15), none, .conv .u8 (.t 14), 0⟩,
      ⟨(some 16), none, .idxs (.k (.s ⟨#[0, 1, 2, 2, 3, 3, 3, 3, 4, 4, 4, 4, 4, 4, 4, 4, 5, 5, 5, 5, 5, 5, 5, 5, 5, 5, 5, 5, 5, 5, 5, 5, 6, 6, 6, 6, 6, 6, 6, 6, 6, 6, 6, 6, 6, 6, 6, 6, 6, 6, 6, 6, 6, 6, 6, 6, 6, 6, 6, 6, 6, 6, 6, 6, 7, 7, 7, 7, 7, 7, 7, 7, 7, 7, 7, 7, 7, 7, 7, 7, 7, 7, 7, 7, 7, 7, 7, 7, 7, 7, 7, 7, 7, 7, 7, 7, 7, 7, 7, 7, 7, 7, 7, 7, 7, 7, 7, 7, 7, 7, 7, 7, 7, 7, 7, 7, 7, 7, 7, 7, 7, 7, 7, 7, 7, 7, 7, 7, 8, 8, 8, 8, 8, 8, 8, 8, 8, 8, 8, 8, 8, 8, 8, 8, 8, 8, 8, 8, 8, 8, 8, 8, 8, 8, 8, 8, 8, 8, 8, 8, 8, 8, 8, 8, 8, 8, 8, 8, 8, 8, 8, 8, 8, 8, 8, 8, 8, 8, 8, 8, 8, 8, 8, 8, 8, 8, 8, 8, 8, 8, 8, 8, 8, 8, 8, 8, 8, 8, 8, 8, 8, 8, 8, 8, 8, 8, 8, 8, 8, 8, 8, 8, 8, 8, 8, 8, 8, 8, 8, 8, 8, 8, 8, 8, 8, 8, 8, 8, 8, 8, 8, 8, 8, 8, 8, 8, 8, 8, 8, 8, 8, 8, 8, 8, 8, 8, 8, 8, 8, 8, 8, 8, 8, 8, 8, 8]⟩)) (.t 15), 0⟩,
      ⟨(some 17), none, .conv .i64 (.t 16), 0⟩,
      ⟨(some 18), none, .bin .add (.t 13) (.t 17), 0⟩,
      ⟨(some 2), none, .mv (.t 18), 0⟩])
    (.cut [2] [] .ret))))))⟩

theorem ok82 : okFn Tryd.prog 3 Tryd.f82 a82 = true := by kernel_rfl

/-- math/bits.Len64 -/
def a83 : AFn := ⟨1, 25, [.t 2],
    .seq (.reg false [
      ⟨(some 2), none, .mv (.k (.i .i64 (0))), 0⟩])
    (.seq (.seq (.reg false [
      ⟨(some 3), none, .mv (.t 0), 0⟩,
      ⟨(some 4), none, .bin .geq (.t 3) (.k (.i .u64 (4294967296))), 0⟩])
    (.ite (.t 4) (.seq (.reg false [
      ⟨(some 5), none, .mv (.t 0), 0⟩,
      ⟨(some 6), none, .bin .shr (.t 5) (.k (.i .u64 (32))), 0⟩,
      ⟨(some 0), none, .mv (.t 6), 0⟩])
    (.reg false [
      ⟨(some 2), none, .mv (.k (.i .i64 (32))), 0⟩])) (.skip)))
    (.cut [0, 2] [] (.seq (.seq (.reg false [
      ⟨(some 7), none, .mv (.t 0), 0⟩,
      ⟨(some 8), none, .bin .geq (.t 7) (.k (.i .u64 (65536))), 0⟩])
    (.ite (.t 8) (.seq (.reg false [
      ⟨(some 9), none, .mv (.t 0), 0⟩,
      ⟨(some 10), none, .bin .shr (.t 9) (.k (.i .u64 (16))), 0⟩,
      ⟨(some 0), none, .mv (.t 10), 0⟩])
    (.reg false [
      ⟨(some 11), none, .mv (.t 2), 0⟩,
      ⟨(some 12), none, .bin .add (.t 11) (.k (.i .i64 (16))), 0⟩,
      ⟨(some 2), none, .mv (.t 12), 0⟩])) (.skip)))
    (.cut [0, 2] [] (.seq (.seq (.reg false [
      ⟨(some 13), none, .mv (.t 0), 0⟩,
      ⟨(some 14), none, .bin .geq (.t 13) (.k (.i .u64 (256))), 0⟩])
    (.ite (.t 14) (.seq (.reg false [
      ⟨(some 15), none, .mv (.t 0), 0⟩,
      ⟨(some 16), none, .bin .shr (.t 15) (.k (.i .u64 (8))), 0⟩,
      ⟨(some 0), none, .mv (.t 16), 0⟩])
    (.reg false [
      ⟨(some 17), none, .mv (.t 2), 0⟩,
      ⟨(some 18), none, .bin .add (.t 17) (.k (.i .i64 (8))), 0⟩,
      ⟨(some 2), none, .mv (.t 18), 0⟩])) (.skip)))
    (.cut [0, 2] [] (.seq (.reg false [
      ⟨(some 19), none, .mv (.t 2), 0⟩,
      ⟨(some 20), none, .mv (.t 0), 0⟩,
      ⟨(some 21), none, .conv .u8 (.t 20), 0⟩,
      ⟨(some 22), none, .idxs (.k (.s ⟨#[0, 1, 2, 2, 3, 3, 3, 3, 4, 4, 4, 4, 4, 4, 4, 4, 5, 5, 5, 5, 5, 5, 5, 5, 5, 5, 5, 5, 5, 5, 5, 5, 6, 6, 6, 6, 6, 6, 6, 6, 6, 6, 6, 6, 6, 6, 6, 6, 6, 6, 6, 6, 6, 6, 6, 6, 6, 6, 6, 6, 6, 6, 6, 6, 7, 7, 7, 7, 7, 7, 7, 7, 7, 7, 7, 7, 7, 7, 7, 7, 7, 7, 7, 7, 7, 7, 7, 7, 7, 7, 7, 7, 7, 7, 7, 7, 7, 7, 7, 7, 7, 7, 7, 7, 7, 7, 7, 7, 7, 7, 7, 7, 7, 7, 7, 7, 7, 7, 7, 7, 7, 7, 7, 7, 7, 7, 7, 7, 8, 8, 8, 8, 8, 8, 8, 8, 8, 8, 8, 8, 8, 8, 8, 8, 8, 8, 8, 8, 8, 8, 8, 8, 8, 8, 8, 8, 8, 8, 8, 8, 8, 8, 8, 8, 8, 8, 8, 8, 8, 8, 8, 8, 8, 8, 8, 8, 8, 8, 8, 8, 8, 8, 8, 8, 8, 8, 8, 8, 8, 8, 8, 8, 8, 8, 8, 8, 8, 8, 8, 8, 8, 8, 8, 8, 8, 8, 8, 8, 8, 8, 8, 8, 8, 8, 8, 8, 8, 8, 8, 8, 8, 8, 8, 8, 8, 8, 8, 8, 8, 8, 8, 8, 8, 8, 8, 8, 8, 8, 8, 8, 8, 8, 8, 8, 8, 8, 8, 8, 8, 8, 8, 8, 8, 8, 8, 8]⟩)) (.t 21), 0⟩,
      ⟨(some 23), none, .conv .i64 (.t 22), 0⟩,
      ⟨(some 24), none, .bin .add (.t 19) (.t 23), 0⟩,
      ⟨(some 2), none, .mv (.t 24), 0⟩])
    (.cut [2] [] .ret))))))))⟩

theorem ok83 : okFn Tryd.prog 3 Tryd.f83 a83 = true := by kernel_rfl

/-- phasor/gate.of -/
def a84 : AFn := ⟨1, 13, [.cell 2 (some 4)],
    .seq (.reg false [
      ⟨(some 2), none, .alloc true 130 [.s ⟨#[]⟩, .i .i64 (0), .i .i64 (0), .i .i64 (0)], 0⟩])
    (.seq (.seq (.reg false [
      ⟨(some 3), none, .mv (.t 0), 0⟩,
      ⟨(some 4), none, .bin .lss (.t 3) (.k (.i .i64 (1))), 0⟩,
      ⟨(some 5), none, .mv (.t 4), 0⟩,
      ⟨(some 6), (some (5, false)), .mv (.t 0), 0⟩,
      ⟨(some 7), (some (5, false)), .bin .gtr (.t 6) (.k (.i .i64 (20))), 0⟩,
      ⟨(some 8), none, .pick (.t 5) (.k (.b true)) (.t 7), 0⟩])
    (.ite (.t 8) (.seq (.reg false [
      ⟨(some 9), none, .build [.s ⟨#[]⟩, .i .i64 (0), .i .i64 (0), .i .i64 (0)] [], 0⟩,
      ⟨none, none, .store 4 (.t 2) (.t 9), 0⟩])
    (.cut [2] [2] .ret)) (.skip)))
    (.cut [0, 2] [2] (.seq (.reg false [
      ⟨(some 10), none, .call 0 (.k (.fn (.func 89) [] [])) [], 0⟩,
      ⟨(some 11), none, .mv (.t 0), 0⟩,
      ⟨(some 12), none, .idx 4 true 21 (.t 10) (.t 11), 0⟩,
      ⟨none, none, .store 4 (.t 2) (.t 12), 0⟩])
    (.cut [2] [2] .ret))))⟩

theorem ok84 : okFn Tryd.prog 3 Tryd.f84 a84 = true := by kernel_rfl

/-- math/bits.TrailingZeros64 -/
def a85 : AFn := ⟨1, 14, [.t 2],
    .seq (.reg false [
      ⟨(some 2), none, .mv (.k (.i .i64 (0))), 0⟩])
    (.seq (.seq (.reg false [
      ⟨(some 3), none, .mv (.t 0), 0⟩,
      ⟨(some 4), none, .bin .eql (.t 3) (.k (.i .u64 (0))), 0⟩])
    (.ite (.t 4) (.seq (.reg false [
      ⟨(some 2), none, .mv (.k (.i .i64 (64))), 0⟩])
    (.cut [2] [] .ret)) (.skip)))
    (.cut [0] [] (.seq (.reg false [
      ⟨(some 5), none, .mv (.t 0), 0⟩,
      ⟨(some 6), none, .mv (.t 0), 0⟩,
      ⟨(some 7), none, .un .neg (.t 6), 0⟩,
      ⟨(some 8), none, .bin .and (.t 5) (.t 7), 0⟩,
      ⟨(some 9), none, .bin .mul (.t 8) (.k (.i .u64 (285870213051353865))), 0⟩,
      ⟨(some 10), none, .bin .shr (.t 9) (.k (.i .u64 (58))), 0⟩,
      ⟨(some 11), none, .iadra 1 64 (.k (.p (some (0, 0)))) (.t 10), 0⟩,
      ⟨(some 12), none, .load none (.t 11), 0⟩,
      ⟨(some 13), none, .conv .i64 (.t 12), 0⟩,
      ⟨(some 2), none, .mv (.t 13), 0⟩])
    (.cut [2] [] .ret))))⟩

theorem ok85 : okFn Tryd.prog 3 Tryd.f85 a85 = true := by kernel_rfl

/-- strings.IndexByte -/
def a86 : AFn := ⟨2, 8, [.t 4],
    .seq (.reg false [
      ⟨(some 4), none, .mv (.k (.i .i64 (0))), 0⟩])
    (.seq (.reg false [
      ⟨(some 5), none, .mv (.t 0), 0⟩,
      ⟨(some 6), none, .mv (.t 1), 0⟩,
      ⟨(some 7), none, .call 0 (.k (.fn (.func 90) [] [])) [.t 5, .t 6], 0⟩,
      ⟨(some 4), none, .mv (.t 7), 0⟩])
    (.cut [4] [] .ret))⟩

theorem ok86 : okFn Tryd.prog 3 Tryd.f86 a86 = true := by kernel_rfl

/-- math.IsInf -/
def a87 : AFn := ⟨2, 15, [.t 4],
    .seq (.reg false [
      ⟨(some 4), none, .mv (.k (.b false)), 0⟩])
    (.seq (.seq (.reg false [
      ⟨(some 5), none, .mv (.t 1), 0⟩,
      ⟨(some 6), none, .bin .eql (.t 5) (.k (.i .i64 (0))), 0⟩])
    (.ite (.t 6) (.reg false [
      ⟨(some 7), none, .mv (.t 0), 0⟩,
      ⟨(some 8), none, .call 0 (.k (.fn (.func 91) [] [])) [.t 7], 0⟩,
      ⟨(some 0), none, .mv (.t 8), 0⟩]) (.seq (.reg false [
      ⟨(some 9), none, .mv (.t 1), 0⟩,
      ⟨(some 10), none, .bin .lss (.t 9) (.k (.i .i64 (0))), 0⟩])
    (.ite (.t 10) (.reg false [
      ⟨(some 11), none, .mv (.t 0), 0⟩,
      ⟨(some 12), none, .pop .fneg [.t 11], 0⟩,
      ⟨(some 0), none, .mv (.t 12), 0⟩]) (.skip)))))
    (.cut [0] [] (.seq (.reg false [
      ⟨(some 13), none, .mv (.t 0), 0⟩,
      ⟨(some 14), none, .pop (.fcmp .gtr) [.t 13, .k (.f .f64 9218868437227405311)], 0⟩,
      ⟨(some 4), none, .mv (.t 14), 0⟩])
    (.cut [4] [] .ret))))⟩

theorem ok87 : okFn Tryd.prog 3 Tryd.f87 a87 = true := by kernel_rfl

/-- phasor/pauli.Mul -/
def a88 : AFn := ⟨2, 14, [.cell 4 (some 4), .t 5],
    .seq (.reg false [
      ⟨(some 2), none, .box true 67 (.t 0), 0⟩,
      ⟨(some 3), none, .box true 67 (.t 1), 0⟩,
      ⟨(some 4), none, .alloc true 67 [.i .i64 (0), .i .u64 (0), .i .u64 (0), .i .i64 (0)], 0⟩,
      ⟨(some 5), none, .mv (.k (.i .i64 (0))), 0⟩])
    (.seq (.seq (.reg false [
      ⟨(some 6), none, .load (some 4) (.t 2), 0⟩,
      ⟨(some 7), none, .load (some 4) (.t 3), 0⟩,
      ⟨(some 8), none, .call 0 (.k (.fn (.func 92) [] [])) [.t 6, .t 7], 0⟩,
      ⟨(some 9), none, .un .not (.t 8), 0⟩])
    (.ite (.t 9) (.seq (.reg false [
      ⟨(some 10), none, .build [.i .i64 (0), .i .u64 (0), .i .u64 (0), .i .i64 (0)] [], 0⟩,
      ⟨none, none, .store 4 (.t 4) (.t 10), 0⟩,
      ⟨(some 5), none, .mv (.k (.i .i64 (130))), 0⟩])
    (.cut [4, 5] [4] .ret)) (.skip)))
    (.cut [2, 3, 4] [2, 3, 4] (.seq (.reg false [
      ⟨(some 11), none, .load (some 4) (.t 2), 0⟩,
      ⟨(some 12), none, .load (some 4) (.t 3), 0⟩,
      ⟨(some 13), none, .call 0 (.k (.fn (.func 72) [] [])) [.t 11, .t 12], 0⟩,
      ⟨none, none, .store 4 (.t 4) (.t 13), 0⟩,
      ⟨(some 5), none, .mv (.k (.i .i64 (0))), 0⟩])
    (.cut [4, 5] [4] .ret))))⟩

theorem ok88 : okFn Tryd.prog 3 Tryd.f88 a88 = true := by kernel_rfl

/-- phasor/gate.table -/
def a89 : AFn := ⟨0, 22, [.cell 0 (some 84)],
    .seq (.reg false [
      ⟨(some 0), none, .alloc true 136 [.s ⟨#[]⟩, .i .i64 (0), .i .i64 (0), .i .i64 (0), .s ⟨#[]⟩, .i .i64 (0), .i .i64 (0), .i .i64 (0), .s ⟨#[]⟩, .i .i64 (0), .i .i64 (0), .i .i64 (0), .s ⟨#[]⟩, .i .i64 (0), .i .i64 (0), .i .i64 (0), .s ⟨#[]⟩, .i .i64 (0), .i .i64 (0), .i .i64 (0), .s ⟨#[]⟩, .i .i64 (0), .i .i64 (0), .i .i64 (0), .s ⟨#[]⟩, .i .i64 (0), .i .i64 (0), .i .i64 (0), .s ⟨#[]⟩, .i .i64 (0), .i .i64 (0), .i .i64 (0), .s ⟨#[]⟩, .i .i64 (0), .i .i64 (0), .i .i64 (0), .s ⟨#[]⟩, .i .i64 (0), .i .i64 (0), .i .i64 (0), .s ⟨#[]⟩, .i .i64 (0), .i .i64 (0), .i .i64 (0), .s ⟨#[]⟩, .i .i64 (0), .i .i64 (0), .i .i64 (0), .s ⟨#[]⟩, .i .i64 (0), .i .i64 (0), .i .i64 (0), .s ⟨#[]⟩, .i .i64 (0), .i .i64 (0), .i .i64 (0), .s ⟨#[]⟩, .i .i64 (0), .i .i64 (0), .i .i64 (0), .s ⟨#[]⟩, .i .i64 (0), .i .i64 (0), .i .i64 (0), .s ⟨#[]⟩, .i .i64 (0), .i .i64 (0), .i .i64 (0), .s ⟨#[]⟩, .i .i64 (0), .i .i64 (0), .i .i64 (0), .s ⟨#[]⟩, .i .i64 (0), .i .i64 (0), .i .i64 (0), .s ⟨#[]⟩, .i .i64 (0), .i .i64 (0), .i .i64 (0), .s ⟨#[]⟩, .i .i64 (0), .i .i64 (0), .i .i64 (0)], 0⟩])
    (.seq (.reg false [
      ⟨(some 1), none, .build [.s ⟨#[]⟩, .i .i64 (0), .i .i64 (0), .i .i64 (0)] [(0, 1, .k (.s ⟨#[105, 100]⟩)), (1, 1, .k (.i .i64 (1))), (2, 1, .k (.i .i64 (0))), (3, 1, .k (.i .i64 (1)))], 0⟩,
      ⟨(some 2), none, .build [.s ⟨#[]⟩, .i .i64 (0), .i .i64 (0), .i .i64 (0)] [(0, 1, .k (.s ⟨#[120]⟩)), (1, 1, .k (.i .i64 (1))), (2, 1, .k (.i .i64 (0))), (3, 1, .k (.i .i64 (2)))], 0⟩,
      ⟨(some 3), none, .build [.s ⟨#[]⟩, .i .i64 (0), .i .i64 (0), .i .i64 (0)] [(0, 1, .k (.s ⟨#[121]⟩)), (1, 1, .k (.i .i64 (1))), (2, 1, .k (.i .i64 (0))), (3, 1, .k (.i .i64 (3)))], 0⟩,
      ⟨(some 4), none, .build [.s ⟨#[]⟩, .i .i64 (0), .i .i64 (0), .i .i64 (0)] [(0, 1, .k (.s ⟨#[122]⟩)), (1, 1, .k (.i .i64 (1))), (2, 1, .k (.i .i64 (0))), (3, 1, .k (.i .i64 (4)))], 0⟩,
      ⟨(some 5), none, .build [.s ⟨#[]⟩, .i .i64 (0), .i .i64 (0), .i .i64 (0)] [(0, 1, .k (.s ⟨#[115]⟩)), (1, 1, .k (.i .i64 (1))), (2, 1, .k (.i .i64 (0))), (3, 1, .k (.i .i64 (6)))], 0⟩,
      ⟨(some 6), none, .build [.s ⟨#[]⟩, .i .i64 (0), .i .i64 (0), .i .i64 (0)] [(0, 1, .k (.s ⟨#[115, 100, 103]⟩)), (1, 1, .k (.i .i64 (1))), (2, 1, .k (.i .i64 (0))), (3, 1, .k (.i .i64 (5)))], 0⟩,
      ⟨(some 7), none, .build [.s ⟨#[]⟩, .i .i64 (0), .i .i64 (0), .i .i64 (0)] [(0, 1, .k (.s ⟨#[115, 120]⟩)), (1, 1, .k (.i .i64 (1))), (2, 1, .k (.i .i64 (0))), (3, 1, .k (.i .i64 (8)))], 0⟩,
      ⟨(some 8), none, .build [.s ⟨#[]⟩, .i .i64 (0), .i .i64 (0), .i .i64 (0)] [(0, 1, .k (.s ⟨#[115, 120, 100, 103]⟩)), (1, 1, .k (.i .i64 (1))), (2, 1, .k (.i .i64 (0))), (3, 1, .k (.i .i64 (7)))], 0⟩,
      ⟨(some 9), none, .build [.s ⟨#[]⟩, .i .i64 (0), .i .i64 (0), .i .i64 (0)] [(0, 1, .k (.s ⟨#[115, 121]⟩)), (1, 1, .k (.i .i64 (1))), (2, 1, .k (.i .i64 (0))), (3, 1, .k (.i .i64 (10)))], 0⟩,
      ⟨(some 10), none, .build [.s ⟨#[]⟩, .i .i64 (0), .i .i64 (0), .i .i64 (0)] [(0, 1, .k (.s ⟨#[115, 121, 100, 103]⟩)), (1, 1, .k (.i .i64 (1))), (2, 1, .k (.i .i64 (0))), (3, 1, .k (.i .i64 (9)))], 0⟩,
      ⟨(some 11), none, .build [.s ⟨#[]⟩, .i .i64 (0), .i .i64 (0), .i .i64 (0)] [(0, 1, .k (.s ⟨#[99, 120]⟩)), (1, 1, .k (.i .i64 (2))), (2, 1, .k (.i .i64 (1))), (3, 1, .k (.i .i64 (11)))], 0⟩,
      ⟨(some 12), none, .build [.s ⟨#[]⟩, .i .i64 (0), .i .i64 (0), .i .i64 (0)] [(0, 1, .k (.s ⟨#[99, 121]⟩)), (1, 1, .k (.i .i64 (2))), (2, 1, .k (.i .i64 (1))), (3, 1, .k (.i .i64 (12)))], 0⟩,
      ⟨(some 13), none, .build [.s ⟨#[]⟩, .i .i64 (0), .i .i64 (0), .i .i64 (0)] [(0, 1, .k (.s ⟨#[99, 122]⟩)), (1, 1, .k (.i .i64 (2))), (2, 1, .k (.i .i64 (0))), (3, 1, .k (.i .i64 (13)))], 0⟩,
      ⟨(some 14), none, .build [.s ⟨#[]⟩, .i .i64 (0), .i .i64 (0), .i .i64 (0)] [(0, 1, .k (.s ⟨#[115, 119, 97, 112]⟩)), (1, 1, .k (.i .i64 (2))), (2, 1, .k (.i .i64 (0))), (3, 1, .k (.i .i64 (14)))], 0⟩,
      ⟨(some 15), none, .build [.s ⟨#[]⟩, .i .i64 (0), .i .i64 (0), .i .i64 (0)] [(0, 1, .k (.s ⟨#[105, 115, 119, 97, 112]⟩)), (1, 1, .k (.i .i64 (2))), (2, 1, .k (.i .i64 (0))), (3, 1, .k (.i .i64 (16)))], 0⟩,
      ⟨(some 16), none, .build [.s ⟨#[]⟩, .i .i64 (0), .i .i64 (0), .i .i64 (0)] [(0, 1, .k (.s ⟨#[105, 115, 119, 97, 112, 100, 103]⟩)), (1, 1, .k (.i .i64 (2))), (2, 1, .k (.i .i64 (0))), (3, 1, .k (.i .i64 (15)))], 0⟩,
      ⟨(some 17), none, .build [.s ⟨#[]⟩, .i .i64 (0), .i .i64 (0), .i .i64 (0)] [(0, 1, .k (.s ⟨#[104, 104]⟩)), (1, 1, .k (.i .i64 (2))), (2, 1, .k (.i .i64 (0))), (3, 1, .k (.i .i64 (17)))], 0⟩,
      ⟨(some 18), none, .build [.s ⟨#[]⟩, .i .i64 (0), .i .i64 (0), .i .i64 (0)] [(0, 1, .k (.s ⟨#[99, 99, 120]⟩)), (1, 1, .k (.i .i64 (3))), (2, 1, .k (.i .i64 (2))), (3, 1, .k (.i .i64 (18)))], 0⟩,
      ⟨(some 19), none, .build [.s ⟨#[]⟩, .i .i64 (0), .i .i64 (0), .i .i64 (0)] [(0, 1, .k (.s ⟨#[99, 99, 122]⟩)), (1, 1, .k (.i .i64 (3))), (2, 1, .k (.i .i64 (0))), (3, 1, .k (.i .i64 (19)))], 0⟩,
      ⟨(some 20), none, .build [.s ⟨#[]⟩, .i .i64 (0), .i .i64 (0), .i .i64 (0)] [(0, 1, .k (.s ⟨#[99, 115, 119, 97, 112]⟩)), (1, 1, .k (.i .i64 (3))), (2, 1, .k (.i .i64 (1))), (3, 1, .k (.i .i64 (20)))], 0⟩,
      ⟨(some 21), none, .build [.s ⟨#[]⟩, .i .i64 (0), .i .i64 (0), .i .i64 (0), .s ⟨#[]⟩, .i .i64 (0), .i .i64 (0), .i .i64 (0), .s ⟨#[]⟩, .i .i64 (0), .i .i64 (0), .i .i64 (0), .s ⟨#[]⟩, .i .i64 (0), .i .i64 (0), .i .i64 (0), .s ⟨#[]⟩, .i .i64 (0), .i .i64 (0), .i .i64 (0), .s ⟨#[]⟩, .i .i64 (0), .i .i64 (0), .i .i64 (0), .s ⟨#[]⟩, .i .i64 (0), .i .i64 (0), .i .i64 (0), .s ⟨#[]⟩, .i .i64 (0), .i .i64 (0), .i .i64 (0), .s ⟨#[]⟩, .i .i64 (0), .i .i64 (0), .i .i64 (0), .s ⟨#[]⟩, .i .i64 (0), .i .i64 (0), .i .i64 (0), .s ⟨#[]⟩, .i .i64 (0), .i .i64 (0), .i .i64 (0), .s ⟨#[]⟩, .i .i64 (0), .i .i64 (0), .i .i64 (0), .s ⟨#[]⟩, .i .i64 (0), .i .i64 (0), .i .i64 (0), .s ⟨#[]⟩, .i .i64 (0), .i .i64 (0), .i .i64 (0), .s ⟨#[]⟩, .i .i64 (0), .i .i64 (0), .i .i64 (0), .s ⟨#[]⟩, .i .i64 (0), .i .i64 (0), .i .i64 (0), .s ⟨#[]⟩, .i .i64 (0), .i .i64 (0), .i .i64 (0), .s ⟨#[]⟩, .i .i64 (0), .i .i64 (0), .i .i64 (0), .s ⟨#[]⟩, .i .i64 (0), .i .i64 (0), .i .i64 (0), .s ⟨#[]⟩, .i .i64 (0), .i .i64 (0), .i .i64 (0), .s ⟨#[]⟩, .i .i64 (0), .i .i64 (0), .i .i64 (0)] [(4, 4, .t 1), (8, 4, .t 2), (12, 4, .t 3), (16, 4, .t 4), (20, 4, .t 5), (24, 4, .t 6), (28, 4, .t 7), (32, 4, .t 8), (36, 4, .t 9), (40, 4, .t 10), (44, 4, .t 11), (48, 4, .t 12), (52, 4, .t 13), (56, 4, .t 14), (60, 4, .t 15), (64, 4, .t 16), (68, 4, .t 17), (72, 4, .t 18), (76, 4, .t 19), (80, 4, .t 20)], 0⟩,
      ⟨none, none, .store 84 (.t 0) (.t 21), 0⟩])
    (.cut [0] [0] .ret))⟩

theorem ok89 : okFn Tryd.prog 3 Tryd.f89 a89 = true := by kernel_rfl


/-- math.Abs -/
def a91 : AFn := ⟨1, 7, [.t 2],
    .seq (.reg false [
      ⟨(some 2), none, .mv (.k (.f .f64 0)), 0⟩])
    (.seq (.reg false [
      ⟨(some 3), none, .mv (.t 0), 0⟩,
      ⟨(some 4), none, .pop .fbits [.t 3], 0⟩,
      ⟨(some 5), none, .bin .andNot (.t 4) (.k (.i .u64 (9223372036854775808))), 0⟩,
      ⟨(some 6), none, .pop .ffrom [.t 5], 0⟩,
      ⟨(some 2), none, .mv (.t 6), 0⟩])
    (.cut [2] [] .ret))⟩

theorem ok91 : okFn Tryd.prog 3 Tryd.f91 a91 = true := by kernel_rfl

/-- phasor/pauli.pair -/
def a92 : AFn := ⟨2, 18, [.t 4],
    .seq (.reg false [
      ⟨(some 2), none, .box true 67 (.t 0), 0⟩,
      ⟨(some 3), none, .box true 67 (.t 1), 0⟩,
      ⟨(some 4), none, .mv (.k (.b false)), 0⟩])
    (.seq (.reg false [
      ⟨(some 5), none, .load (some 4) (.t 2), 0⟩,
      ⟨(some 6), none, .call 0 (.k (.fn (.func 49) [] [])) [.t 5], 0⟩,
      ⟨(some 7), none, .mv (.t 6), 0⟩,
      ⟨(some 8), (some (7, true)), .load (some 4) (.t 3), 0⟩,
      ⟨(some 9), (some (7, true)), .call 0 (.k (.fn (.func 49) [] [])) [.t 8], 0⟩,
      ⟨(some 10), none, .pick (.t 7) (.t 9) (.k (.b false)), 0⟩,
      ⟨(some 11), none, .mv (.t 10), 0⟩,
      ⟨(some 12), (some (11, true)), .fadr 0 (.t 2), 0⟩,
      ⟨(some 13), (some (11, true)), .load none (.t 12), 0⟩,
      ⟨(some 14), (some (11, true)), .fadr 0 (.t 3), 0⟩,
      ⟨(some 15), (some (11, true)), .load none (.t 14), 0⟩,
      ⟨(some 16), (some (11, true)), .bin .eql (.t 13) (.t 15), 0⟩,
      ⟨(some 17), none, .pick (.t 11) (.t 16) (.k (.b false)), 0⟩,
      ⟨(some 4), none, .mv (.t 17), 0⟩])
    (.cut [4] [] .ret))⟩

theorem ok92 : okFn Tryd.prog 3 Tryd.f92 a92 = true := by kernel_rfl

end Go.Proofs.YtdlkmjkonpijgaaDoor.Ab
