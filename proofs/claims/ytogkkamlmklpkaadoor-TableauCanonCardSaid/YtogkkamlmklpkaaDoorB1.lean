/- The functions, for the abstract machine. Written by gen.py. No condition. -/
import Derived.Test.YtogkkamlmklpkaaDoorAC
import Derived.Test.YtogkkamlmklpkaaDoorProg
set_option linter.unusedVariables false
set_option maxRecDepth 100000
namespace Go.Proofs.YtogkkamlmklpkaaDoor.Ab
open Go

/-- phasor/phasorlaw14.TableauCanon -/
def a4 : AFn := ⟨3, 154, [.t 6],
    .seq (.reg false [
      ⟨(some 3), none, .box true 24 (.t 0), 0⟩,
      ⟨(some 6), none, .mv (.k (.b false)), 0⟩])
    (.seq (.seq (.reg false [
      ⟨(some 15), none, .load (some 3) (.t 3), 0⟩,
      ⟨(some 16), none, .call 0 (.k (.fn (.func 14) [] [])) [.t 15], 0⟩,
      ⟨(some 17), none, .call 0 (.k (.fn (.func 13) [] [])) [.t 16], 0⟩,
      ⟨(some 18), none, .bin .neq (.t 17) (.k (.i .i64 (0))), 0⟩,
      ⟨(some 19), none, .mv (.t 18), 0⟩,
      ⟨(some 20), (some (19, false)), .fadr 0 (.t 3), 0⟩,
      ⟨(some 21), (some (19, false)), .load none (.t 20), 0⟩,
      ⟨(some 22), (some (19, false)), .bin .lss (.t 21) (.k (.i .i64 (2))), 0⟩,
      ⟨(some 23), none, .pick (.t 19) (.k (.b true)) (.t 22), 0⟩])
    (.ite (.t 23) (.seq (.reg false [
      ⟨(some 24), none, .call 0 (.k (.fn (.func 16) [] [])) [], 0⟩,
      ⟨(some 6), none, .mv (.t 24), 0⟩])
    (.cutg 2 [6] [] .ret)) (.skip)))
    (.cutg 2 [1, 2, 3] [3] (.seq (.reg false [
      ⟨(some 25), none, .mv (.t 1), 0⟩,
      ⟨(some 26), none, .conv .u64 (.t 25), 0⟩,
      ⟨(some 27), none, .fadr 0 (.t 3), 0⟩,
      ⟨(some 28), none, .load none (.t 27), 0⟩,
      ⟨(some 29), none, .conv .u64 (.t 28), 0⟩,
      ⟨(some 30), none, .bin .rem (.t 26) (.t 29), 0⟩,
      ⟨(some 31), none, .conv .i64 (.t 30), 0⟩,
      ⟨(some 1), none, .mv (.t 31), 0⟩])
    (.seq (.reg false [
      ⟨(some 32), none, .mv (.t 2), 0⟩,
      ⟨(some 33), none, .conv .u64 (.t 32), 0⟩,
      ⟨(some 34), none, .fadr 0 (.t 3), 0⟩,
      ⟨(some 35), none, .load none (.t 34), 0⟩,
      ⟨(some 36), none, .conv .u64 (.t 35), 0⟩,
      ⟨(some 37), none, .bin .rem (.t 33) (.t 36), 0⟩,
      ⟨(some 38), none, .conv .i64 (.t 37), 0⟩,
      ⟨(some 2), none, .mv (.t 38), 0⟩])
    (.seq (.seq (.reg false [
      ⟨(some 39), none, .mv (.t 1), 0⟩,
      ⟨(some 40), none, .mv (.t 2), 0⟩,
      ⟨(some 41), none, .bin .eql (.t 39) (.t 40), 0⟩])
    (.ite (.t 41) (.seq (.reg false [
      ⟨(some 42), none, .call 0 (.k (.fn (.func 16) [] [])) [], 0⟩,
      ⟨(some 6), none, .mv (.t 42), 0⟩])
    (.cutg 2 [6] [] .ret)) (.skip)))
    (.cutg 2 [1, 2, 3] [3] (.seq (.reg false [
      ⟨(some 43), none, .load (some 3) (.t 3), 0⟩,
      ⟨(some 44), none, .call 1 (.k (.fn (.func 17) [] [])) [.t 43], 0⟩,
      ⟨(some 7), none, .alloc true 24 [.i .i64 (0), .sl none 0 (.ex 0), .sl none 0 (.ex 0)], 0⟩,
      ⟨none, none, .store 3 (.t 7) (.t 44), 0⟩])
    (.seq (.reg true [
      ⟨(some 46), none, .fadr 1 (.t 3), 0⟩,
      ⟨(some 47), none, .load none (.t 46), 1⟩,
      ⟨(some 48), none, .mv (.t 1), 0⟩,
      ⟨(some 49), none, .iadr 4 (.t 47) (.t 48), 7⟩,
      ⟨(some 50), none, .load (some 4) (.t 49), 15⟩,
      ⟨(some 51), none, .fadr 1 (.t 3), 0⟩,
      ⟨(some 52), none, .load none (.t 51), 32⟩,
      ⟨(some 53), none, .mv (.t 2), 0⟩,
      ⟨(some 54), none, .iadr 4 (.t 52) (.t 53), 224⟩,
      ⟨(some 55), none, .load (some 4) (.t 54), 480⟩,
      ⟨(some 56), none, .call 0 (.k (.fn (.func 18) [] [])) [.t 50, .t 55], 1023⟩,
      ⟨(some 45), none, .mv (.t 56), 2047⟩,
      ⟨(some 57), none, .ext (.t 45) 0, 4095⟩,
      ⟨(some 58), none, .ext (.t 45) 1, 4095⟩,
      ⟨(some 8), none, .alloc true 39 [.i .i64 (0), .i .u64 (0), .i .u64 (0), .i .i64 (0)], 0⟩,
      ⟨none, none, .store 4 (.t 8) (.t 57), 24575⟩,
      ⟨(some 9), none, .mv (.t 58), 65535⟩])
    (.seq (.reg true [
      ⟨(some 60), none, .fadr 2 (.t 3), 0⟩,
      ⟨(some 61), none, .load none (.t 60), 1⟩,
      ⟨(some 62), none, .mv (.t 2), 0⟩,
      ⟨(some 63), none, .iadr 4 (.t 61) (.t 62), 7⟩,
      ⟨(some 64), none, .load (some 4) (.t 63), 15⟩,
      ⟨(some 65), none, .fadr 2 (.t 3), 0⟩,
      ⟨(some 66), none, .load none (.t 65), 32⟩,
      ⟨(some 67), none, .mv (.t 1), 0⟩,
      ⟨(some 68), none, .iadr 4 (.t 66) (.t 67), 224⟩,
      ⟨(some 69), none, .load (some 4) (.t 68), 480⟩,
      ⟨(some 70), none, .call 0 (.k (.fn (.func 18) [] [])) [.t 64, .t 69], 1023⟩,
      ⟨(some 59), none, .mv (.t 70), 2047⟩,
      ⟨(some 71), none, .ext (.t 59) 0, 4095⟩,
      ⟨(some 72), none, .ext (.t 59) 1, 4095⟩,
      ⟨(some 10), none, .alloc true 39 [.i .i64 (0), .i .u64 (0), .i .u64 (0), .i .i64 (0)], 0⟩,
      ⟨none, none, .store 4 (.t 10) (.t 71), 24575⟩,
      ⟨(some 11), none, .mv (.t 72), 65535⟩])
    (.seq (.seq (.reg false [
      ⟨(some 73), none, .mv (.t 9), 0⟩,
      ⟨(some 74), none, .call 0 (.k (.fn (.func 13) [] [])) [.t 73], 0⟩,
      ⟨(some 75), none, .bin .neq (.t 74) (.k (.i .i64 (0))), 0⟩,
      ⟨(some 76), none, .mv (.t 75), 0⟩,
      ⟨(some 77), (some (76, false)), .mv (.t 11), 0⟩,
      ⟨(some 78), (some (76, false)), .call 0 (.k (.fn (.func 13) [] [])) [.t 77], 0⟩,
      ⟨(some 79), (some (76, false)), .bin .neq (.t 78) (.k (.i .i64 (0))), 0⟩,
      ⟨(some 80), none, .pick (.t 76) (.k (.b true)) (.t 79), 0⟩])
    (.ite (.t 80) (.seq (.reg false [
      ⟨(some 6), none, .mv (.k (.b false)), 0⟩])
    (.cutg 2 [6] [] .ret)) (.skip)))
    (.cutg 2 [1, 2, 3, 7, 8, 10] [3, 7, 8, 10] (.seq (.reg false [
      ⟨(some 81), none, .fadr 1 (.t 7), 0⟩,
      ⟨(some 82), none, .load none (.t 81), 0⟩,
      ⟨(some 83), none, .mv (.t 1), 0⟩,
      ⟨(some 84), none, .load (some 4) (.t 8), 0⟩,
      ⟨(some 85), none, .iadr 4 (.t 82) (.t 83), 0⟩,
      ⟨none, none, .store 4 (.t 85) (.t 84), 0⟩])
    (.seq (.reg false [
      ⟨(some 86), none, .fadr 2 (.t 7), 0⟩,
      ⟨(some 87), none, .load none (.t 86), 0⟩,
      ⟨(some 88), none, .mv (.t 2), 0⟩,
      ⟨(some 89), none, .load (some 4) (.t 10), 0⟩,
      ⟨(some 90), none, .iadr 4 (.t 87) (.t 88), 0⟩,
      ⟨none, none, .store 4 (.t 90) (.t 89), 0⟩])
    (.seq (.reg false [
      ⟨(some 91), none, .load (some 3) (.t 3), 0⟩,
      ⟨(some 92), none, .call 1 (.k (.fn (.func 17) [] [])) [.t 91], 0⟩,
      ⟨(some 12), none, .alloc true 24 [.i .i64 (0), .sl none 0 (.ex 0), .sl none 0 (.ex 0)], 0⟩,
      ⟨none, none, .store 3 (.t 12) (.t 92), 0⟩])
    (.seq (.reg true [
      ⟨(some 93), none, .fadr 1 (.t 12), 0⟩,
      ⟨(some 94), none, .load none (.t 93), 1⟩,
      ⟨(some 95), none, .mv (.t 1), 0⟩,
      ⟨(some 96), none, .iadr 4 (.t 94) (.t 95), 7⟩,
      ⟨(some 97), none, .load (some 4) (.t 96), 15⟩,
      ⟨(some 98), none, .fadr 2 (.t 12), 0⟩,
      ⟨(some 99), none, .load none (.t 98), 32⟩,
      ⟨(some 100), none, .mv (.t 1), 0⟩,
      ⟨(some 101), none, .iadr 4 (.t 99) (.t 100), 224⟩,
      ⟨(some 102), none, .load (some 4) (.t 101), 480⟩,
      ⟨(some 13), none, .alloc true 39 [.i .i64 (0), .i .u64 (0), .i .u64 (0), .i .i64 (0)], 0⟩,
      ⟨(some 14), none, .alloc true 39 [.i .i64 (0), .i .u64 (0), .i .u64 (0), .i .i64 (0)], 0⟩,
      ⟨none, none, .store 4 (.t 13) (.t 97), 3103⟩,
      ⟨none, none, .store 4 (.t 14) (.t 102), 8191⟩])
    (.seq (.reg true [
      ⟨(some 103), none, .fadr 1 (.t 12), 0⟩,
      ⟨(some 104), none, .load none (.t 103), 1⟩,
      ⟨(some 105), none, .mv (.t 1), 0⟩,
      ⟨(some 106), none, .fadr 2 (.t 12), 0⟩,
      ⟨(some 107), none, .load none (.t 106), 8⟩,
      ⟨(some 108), none, .mv (.t 1), 0⟩,
      ⟨(some 109), none, .fadr 1 (.t 12), 0⟩,
      ⟨(some 110), none, .load none (.t 109), 64⟩,
      ⟨(some 111), none, .mv (.t 2), 0⟩,
      ⟨(some 112), none, .iadr 4 (.t 110) (.t 111), 448⟩,
      ⟨(some 113), none, .load (some 4) (.t 112), 960⟩,
      ⟨(some 114), none, .fadr 2 (.t 12), 0⟩,
      ⟨(some 115), none, .load none (.t 114), 2048⟩,
      ⟨(some 116), none, .mv (.t 2), 0⟩,
      ⟨(some 117), none, .iadr 4 (.t 115) (.t 116), 14336⟩,
      ⟨(some 118), none, .load (some 4) (.t 117), 30720⟩,
      ⟨(some 119), none, .iadr 4 (.t 104) (.t 105), 65479⟩,
      ⟨none, none, .store 4 (.t 119) (.t 113), 131015⟩,
      ⟨(some 120), none, .iadr 4 (.t 107) (.t 108), 262143⟩,
      ⟨none, none, .store 4 (.t 120) (.t 118), 524287⟩])
    (.seq (.reg true [
      ⟨(some 121), none, .fadr 1 (.t 12), 0⟩,
      ⟨(some 122), none, .load none (.t 121), 1⟩,
      ⟨(some 123), none, .mv (.t 2), 0⟩,
      ⟨(some 124), none, .fadr 2 (.t 12), 0⟩,
      ⟨(some 125), none, .load none (.t 124), 8⟩,
      ⟨(some 126), none, .mv (.t 2), 0⟩,
      ⟨(some 127), none, .load (some 4) (.t 13), 0⟩,
      ⟨(some 128), none, .load (some 4) (.t 14), 0⟩,
      ⟨(some 129), none, .iadr 4 (.t 122) (.t 123), 71⟩,
      ⟨none, none, .store 4 (.t 129) (.t 127), 327⟩,
      ⟨(some 130), none, .iadr 4 (.t 125) (.t 126), 1023⟩,
      ⟨none, none, .store 4 (.t 130) (.t 128), 2047⟩])
    (.seq (.reg false [
      ⟨(some 131), none, .load (some 3) (.t 7), 0⟩,
      ⟨(some 132), none, .call 0 (.k (.fn (.func 14) [] [])) [.t 131], 0⟩,
      ⟨(some 133), none, .call 0 (.k (.fn (.func 13) [] [])) [.t 132], 0⟩,
      ⟨(some 134), none, .bin .eql (.t 133) (.k (.i .i64 (0))), 0⟩,
      ⟨(some 135), none, .mv (.t 134), 0⟩,
      ⟨(some 136), (some (135, true)), .load (some 3) (.t 12), 0⟩,
      ⟨(some 137), (some (135, true)), .call 0 (.k (.fn (.func 14) [] [])) [.t 136], 0⟩,
      ⟨(some 138), (some (135, true)), .call 0 (.k (.fn (.func 13) [] [])) [.t 137], 0⟩,
      ⟨(some 139), (some (135, true)), .bin .eql (.t 138) (.k (.i .i64 (0))), 0⟩,
      ⟨(some 140), none, .pick (.t 135) (.t 139) (.k (.b false)), 0⟩,
      ⟨(some 141), none, .mv (.t 140), 0⟩,
      ⟨(some 142), (some (141, true)), .load (some 3) (.t 3), 0⟩,
      ⟨(some 143), (some (141, true)), .load (some 3) (.t 7), 0⟩,
      ⟨(some 144), (some (141, true)), .call 0 (.k (.fn (.func 19) [] [])) [.t 142, .t 143], 0⟩,
      ⟨(some 145), none, .pick (.t 141) (.t 144) (.k (.b false)), 0⟩,
      ⟨(some 146), none, .mv (.t 145), 0⟩,
      ⟨(some 147), (some (146, true)), .load (some 3) (.t 3), 0⟩,
      ⟨(some 148), (some (146, true)), .load (some 3) (.t 12), 0⟩,
      ⟨(some 149), (some (146, true)), .call 0 (.k (.fn (.func 19) [] [])) [.t 147, .t 148], 0⟩,
      ⟨(some 150), none, .pick (.t 146) (.t 149) (.k (.b false)), 0⟩,
      ⟨(some 151), none, .mv (.t 150), 0⟩,
      ⟨(some 152), (some (151, true)), .call 0 (.k (.fn (.func 16) [] [])) [], 0⟩,
      ⟨(some 153), none, .pick (.t 151) (.t 152) (.k (.b false)), 0⟩,
      ⟨(some 6), none, .mv (.t 153), 0⟩])
    (.cutg 2 [6] [] .ret)))))))))))))))))))⟩

theorem ok4 : okFn Tryd.prog 2 Tryd.f4 a4 = true := by kernel_rfl

def a11L0 : AC :=
    .cutg 2 [0, 2, 4, 15, 16] [2, 4] (.seq (.reg false [
      ⟨(some 17), none, .bin .lss (.t 16) (.t 15), 0⟩])
    (.seq (.ite (.t 17) (.skip) (.cutg 2 [2, 4] [2, 4] (.exit 0)))
    (.cutg 2 [0, 2, 4, 15, 16] [2, 4] (.seq (.blk 1 (.seq (.reg false [
      ⟨(some 18), none, .mv (.t 16), 0⟩,
      ⟨(some 5), none, .mv (.t 18), 0⟩])
    (.seq (.reg true [
      ⟨(some 19), none, .fadr 1 (.t 4), 0⟩,
      ⟨(some 20), none, .load none (.t 19), 1⟩,
      ⟨(some 21), none, .mv (.t 0), 0⟩,
      ⟨(some 22), none, .mv (.t 5), 0⟩,
      ⟨(some 23), none, .bin .shl (.k (.i .u64 (1))) (.t 22), 8⟩,
      ⟨(some 24), none, .build [.i .i64 (0), .i .u64 (0), .i .u64 (0), .i .i64 (0)] [(0, 1, .t 21), (2, 1, .t 23)], 28⟩,
      ⟨(some 25), none, .bslice 39 4 1 [.i .i64 (0), .i .u64 (0), .i .u64 (0), .i .i64 (0)] [(0, 4, .t 24)], 60⟩,
      ⟨(some 26), none, .app 39 4 32 (.t 20) (.t 25), 127⟩,
      ⟨(some 27), none, .fadr 1 (.t 4), 255⟩,
      ⟨none, none, .store 1 (.t 27) (.t 26), 511⟩])
    (.reg true [
      ⟨(some 28), none, .fadr 2 (.t 4), 0⟩,
      ⟨(some 29), none, .load none (.t 28), 1⟩,
      ⟨(some 30), none, .mv (.t 0), 0⟩,
      ⟨(some 31), none, .mv (.t 5), 0⟩,
      ⟨(some 32), none, .bin .shl (.k (.i .u64 (1))) (.t 31), 8⟩,
      ⟨(some 33), none, .build [.i .i64 (0), .i .u64 (0), .i .u64 (0), .i .i64 (0)] [(0, 1, .t 30), (1, 1, .t 32)], 28⟩,
      ⟨(some 34), none, .bslice 39 4 1 [.i .i64 (0), .i .u64 (0), .i .u64 (0), .i .i64 (0)] [(0, 4, .t 33)], 60⟩,
      ⟨(some 35), none, .app 39 4 32 (.t 29) (.t 34), 127⟩,
      ⟨(some 36), none, .fadr 2 (.t 4), 255⟩,
      ⟨none, none, .store 1 (.t 36) (.t 35), 511⟩]))))
    (.cutg 2 [0, 2, 4, 15, 16] [2, 4] (.reg false [
      ⟨(some 37), none, .bin .add (.t 16) (.k (.i .i64 (1))), 0⟩,
      ⟨(some 16), none, .mv (.t 37), 0⟩]))))))
/-- phasor/tableau.New -/
def a11 : AFn := ⟨1, 39, [.cell 2 (some 3), .t 3],
    .seq (.reg false [
      ⟨(some 2), none, .alloc true 24 [.i .i64 (0), .sl none 0 (.ex 0), .sl none 0 (.ex 0)], 0⟩,
      ⟨(some 3), none, .mv (.k (.i .i64 (0))), 0⟩])
    (.seq (.seq (.reg false [
      ⟨(some 6), none, .mv (.t 0), 0⟩,
      ⟨(some 7), none, .bin .lss (.t 6) (.k (.i .i64 (0))), 0⟩,
      ⟨(some 8), none, .mv (.t 7), 0⟩,
      ⟨(some 9), (some (8, false)), .mv (.t 0), 0⟩,
      ⟨(some 10), (some (8, false)), .bin .gtr (.t 9) (.k (.i .i64 (64))), 0⟩,
      ⟨(some 11), none, .pick (.t 8) (.k (.b true)) (.t 10), 0⟩])
    (.ite (.t 11) (.seq (.reg false [
      ⟨(some 12), none, .build [.i .i64 (0), .sl none 0 (.ex 0), .sl none 0 (.ex 0)] [], 0⟩,
      ⟨none, none, .store 3 (.t 2) (.t 12), 0⟩,
      ⟨(some 3), none, .mv (.k (.i .i64 (2))), 0⟩])
    (.cutg 2 [2, 3] [2] .ret)) (.skip)))
    (.cutg 2 [0, 2] [2] (.seq (.reg false [
      ⟨(some 13), none, .mv (.t 0), 0⟩,
      ⟨(some 14), none, .build [.i .i64 (0), .sl none 0 (.ex 0), .sl none 0 (.ex 0)] [(0, 1, .t 13)], 0⟩,
      ⟨(some 4), none, .alloc true 24 [.i .i64 (0), .sl none 0 (.ex 0), .sl none 0 (.ex 0)], 0⟩,
      ⟨none, none, .store 3 (.t 4) (.t 14), 0⟩])
    (.seq (.seq (.reg false [
      ⟨(some 15), none, .mv (.t 0), 0⟩,
      ⟨(some 16), none, .mv (.k (.i .i64 (0))), 0⟩])
    (.blk 0 (.loop a11L0)))
    (.cutg 2 [2, 4] [2, 4] (.seq (.reg false [
      ⟨(some 38), none, .load (some 3) (.t 4), 0⟩,
      ⟨none, none, .store 3 (.t 2) (.t 38), 0⟩,
      ⟨(some 3), none, .mv (.k (.i .i64 (0))), 0⟩])
    (.cutg 2 [2, 3] [2] .ret)))))))⟩

theorem ok11 : okFn Tryd.prog 2 Tryd.f11 a11 = true := by kernel_rfl

/-- phasor/phasorlaw14.num -/
def a13 : AFn := ⟨1, 4, [.t 2],
    .seq (.reg false [
      ⟨(some 2), none, .mv (.k (.i .i64 (0))), 0⟩])
    (.seq (.reg false [
      ⟨(some 3), none, .mv (.t 0), 0⟩,
      ⟨(some 2), none, .mv (.t 3), 0⟩])
    (.cut [2] [] .ret))⟩

theorem ok13 : okFn Tryd.prog 2 Tryd.f13 a13 = true := by kernel_rfl

def a14L0 : AC :=
    .cutg 2 [1, 33, 34, 47, 48, 49] [1] (.seq (.reg false [
      ⟨(some 50), none, .bin .lss (.t 49) (.t 48), 0⟩])
    (.seq (.ite (.t 50) (.skip) (.cutg 2 [1, 33, 34] [1] (.exit 2)))
    (.cutg 2 [1, 33, 34, 47, 48, 49] [1] (.seq (.blk 3 (.seq (.reg false [
      ⟨(some 51), none, .iadr 4 (.t 47) (.t 49), 0⟩,
      ⟨(some 52), none, .load (some 4) (.t 51), 0⟩,
      ⟨(some 5), none, .alloc true 39 [.i .i64 (0), .i .u64 (0), .i .u64 (0), .i .i64 (0)], 0⟩,
      ⟨none, none, .store 4 (.t 5) (.t 52), 0⟩])
    (.seq (.reg false [
      ⟨(some 53), none, .fadr 0 (.t 5), 0⟩,
      ⟨(some 54), none, .load none (.t 53), 0⟩,
      ⟨(some 55), none, .fadr 0 (.t 1), 0⟩,
      ⟨(some 56), none, .load none (.t 55), 0⟩,
      ⟨(some 57), none, .bin .neq (.t 54) (.t 56), 0⟩,
      ⟨(some 58), none, .mv (.t 57), 0⟩,
      ⟨(some 59), (some (58, false)), .load (some 4) (.t 5), 0⟩,
      ⟨(some 60), (some (58, false)), .call 0 (.k (.fn (.func 39) [] [])) [.t 59], 0⟩,
      ⟨(some 61), (some (58, false)), .un .not (.t 60), 0⟩,
      ⟨(some 62), none, .pick (.t 58) (.k (.b true)) (.t 61), 0⟩])
    (.ite (.t 62) (.seq (.reg false [
      ⟨(some 2), none, .mv (.k (.i .i64 (140))), 0⟩])
    (.cutg 2 [2] [] .ret)) (.skip)))))
    (.cutg 2 [1, 33, 34, 47, 48, 49] [1] (.reg false [
      ⟨(some 63), none, .bin .add (.t 49) (.k (.i .i64 (1))), 0⟩,
      ⟨(some 49), none, .mv (.t 63), 0⟩]))))))
def a14L1 : AC :=
    .cutg 2 [1, 33, 34] [1] (.seq (.reg false [
      ⟨(some 35), none, .bin .lss (.t 34) (.t 33), 0⟩])
    (.seq (.ite (.t 35) (.skip) (.cutg 2 [1] [1] (.exit 0)))
    (.cutg 2 [1, 33, 34] [1] (.seq (.blk 1 (.seq (.reg false [
      ⟨(some 36), none, .mv (.t 34), 0⟩,
      ⟨(some 3), none, .mv (.t 36), 0⟩])
    (.seq (.reg true [
      ⟨(some 37), none, .fadr 1 (.t 1), 0⟩,
      ⟨(some 38), none, .load none (.t 37), 1⟩,
      ⟨(some 39), none, .mv (.t 3), 0⟩,
      ⟨(some 40), none, .iadr 4 (.t 38) (.t 39), 7⟩,
      ⟨(some 41), none, .load (some 4) (.t 40), 15⟩,
      ⟨(some 42), none, .fadr 2 (.t 1), 0⟩,
      ⟨(some 43), none, .load none (.t 42), 32⟩,
      ⟨(some 44), none, .mv (.t 3), 0⟩,
      ⟨(some 45), none, .iadr 4 (.t 43) (.t 44), 224⟩,
      ⟨(some 46), none, .load (some 4) (.t 45), 480⟩,
      ⟨(some 47), none, .bslice 39 4 2 [.i .i64 (0), .i .u64 (0), .i .u64 (0), .i .i64 (0), .i .i64 (0), .i .u64 (0), .i .u64 (0), .i .i64 (0)] [(0, 4, .t 41), (4, 4, .t 46)], 1023⟩,
      ⟨(some 48), none, .len false (.t 47), 2047⟩,
      ⟨(some 49), none, .mv (.k (.i .i64 (0))), 0⟩])
    (.blk 2 (.loop a14L0)))))
    (.cutg 2 [1, 33, 34] [1] (.reg false [
      ⟨(some 64), none, .bin .add (.t 34) (.k (.i .i64 (1))), 0⟩,
      ⟨(some 34), none, .mv (.t 64), 0⟩]))))))
def a14L2 : AC :=
    .cutg 2 [1, 6, 66, 67, 71, 72] [1] (.seq (.reg false [
      ⟨(some 73), none, .bin .lss (.t 72) (.t 71), 0⟩])
    (.seq (.ite (.t 73) (.skip) (.cutg 2 [1, 66, 67] [1] (.exit 6)))
    (.cutg 2 [1, 6, 66, 67, 71, 72] [1] (.seq (.blk 7 (.seq (.reg false [
      ⟨(some 74), none, .mv (.t 72), 0⟩,
      ⟨(some 7), none, .mv (.t 74), 0⟩])
    (.seq (.reg true [
      ⟨(some 75), none, .fadr 1 (.t 1), 0⟩,
      ⟨(some 76), none, .load none (.t 75), 1⟩,
      ⟨(some 77), none, .mv (.t 6), 0⟩,
      ⟨(some 78), none, .iadr 4 (.t 76) (.t 77), 7⟩,
      ⟨(some 79), none, .load (some 4) (.t 78), 15⟩,
      ⟨(some 80), none, .fadr 1 (.t 1), 0⟩,
      ⟨(some 81), none, .load none (.t 80), 32⟩,
      ⟨(some 82), none, .mv (.t 7), 0⟩,
      ⟨(some 83), none, .iadr 4 (.t 81) (.t 82), 224⟩,
      ⟨(some 84), none, .load (some 4) (.t 83), 480⟩,
      ⟨(some 85), none, .call 0 (.k (.fn (.func 40) [] [])) [.t 79, .t 84], 1023⟩,
      ⟨(some 86), none, .un .not (.t 85), 2047⟩,
      ⟨(some 87), none, .mv (.t 86), 4095⟩,
      ⟨(some 88), (some (87, false)), .fadr 2 (.t 1), 8191⟩,
      ⟨(some 89), (some (87, false)), .load none (.t 88), 16383⟩,
      ⟨(some 90), (some (87, false)), .mv (.t 6), 8191⟩,
      ⟨(some 91), (some (87, false)), .iadr 4 (.t 89) (.t 90), 65535⟩,
      ⟨(some 92), (some (87, false)), .load (some 4) (.t 91), 131071⟩,
      ⟨(some 93), (some (87, false)), .fadr 2 (.t 1), 8191⟩,
      ⟨(some 94), (some (87, false)), .load none (.t 93), 270335⟩,
      ⟨(some 95), (some (87, false)), .mv (.t 7), 8191⟩,
      ⟨(some 96), (some (87, false)), .iadr 4 (.t 94) (.t 95), 1843199⟩,
      ⟨(some 97), (some (87, false)), .load (some 4) (.t 96), 3940351⟩,
      ⟨(some 98), (some (87, false)), .call 0 (.k (.fn (.func 40) [] [])) [.t 92, .t 97], 8388607⟩,
      ⟨(some 99), (some (87, false)), .un .not (.t 98), 16777215⟩,
      ⟨(some 100), none, .pick (.t 87) (.k (.b true)) (.t 99), 33554431⟩,
      ⟨(some 101), none, .mv (.t 100), 67108863⟩,
      ⟨(some 102), (some (101, false)), .fadr 2 (.t 1), 134217727⟩,
      ⟨(some 103), (some (101, false)), .load none (.t 102), 268435455⟩,
      ⟨(some 104), (some (101, false)), .mv (.t 6), 134217727⟩,
      ⟨(some 105), (some (101, false)), .iadr 4 (.t 103) (.t 104), 1073741823⟩,
      ⟨(some 106), (some (101, false)), .load (some 4) (.t 105), 2147483647⟩,
      ⟨(some 107), (some (101, false)), .fadr 1 (.t 1), 134217727⟩,
      ⟨(some 108), (some (101, false)), .load none (.t 107), 4429185023⟩,
      ⟨(some 109), (some (101, false)), .mv (.t 7), 134217727⟩,
      ⟨(some 110), (some (101, false)), .iadr 4 (.t 108) (.t 109), 30198988799⟩,
      ⟨(some 111), (some (101, false)), .load (some 4) (.t 110), 64558727167⟩,
      ⟨(some 112), (some (101, false)), .call 0 (.k (.fn (.func 40) [] [])) [.t 106, .t 111], 137438953471⟩,
      ⟨(some 113), (some (101, false)), .mv (.t 6), 134217727⟩,
      ⟨(some 114), (some (101, false)), .mv (.t 7), 134217727⟩,
      ⟨(some 115), (some (101, false)), .bin .eql (.t 113) (.t 114), 824767938559⟩,
      ⟨(some 116), (some (101, false)), .eqb false (.t 112) (.t 115), 2199023255551⟩,
      ⟨(some 117), none, .pick (.t 101) (.k (.b true)) (.t 116), 4398046511103⟩])
    (.ite (.t 117) (.seq (.reg false [
      ⟨(some 2), none, .mv (.k (.i .i64 (140))), 0⟩])
    (.cutg 2 [2] [] .ret)) (.skip)))))
    (.cutg 2 [1, 6, 66, 67, 71, 72] [1] (.reg false [
      ⟨(some 118), none, .bin .add (.t 72) (.k (.i .i64 (1))), 0⟩,
      ⟨(some 72), none, .mv (.t 118), 0⟩]))))))
def a14L3 : AC :=
    .cutg 2 [1, 66, 67] [1] (.seq (.reg false [
      ⟨(some 68), none, .bin .lss (.t 67) (.t 66), 0⟩])
    (.seq (.ite (.t 68) (.skip) (.cutg 2 [] [] (.exit 4)))
    (.cutg 2 [1, 66, 67] [1] (.seq (.blk 5 (.seq (.reg false [
      ⟨(some 69), none, .mv (.t 67), 0⟩,
      ⟨(some 6), none, .mv (.t 69), 0⟩])
    (.seq (.reg false [
      ⟨(some 70), none, .fadr 0 (.t 1), 0⟩,
      ⟨(some 71), none, .load none (.t 70), 0⟩,
      ⟨(some 72), none, .mv (.k (.i .i64 (0))), 0⟩])
    (.blk 6 (.loop a14L2)))))
    (.cutg 2 [1, 66, 67] [1] (.reg false [
      ⟨(some 119), none, .bin .add (.t 67) (.k (.i .i64 (1))), 0⟩,
      ⟨(some 67), none, .mv (.t 119), 0⟩]))))))
/-- phasor/tableau.Check -/
def a14 : AFn := ⟨1, 120, [.t 2],
    .seq (.reg false [
      ⟨(some 1), none, .box true 24 (.t 0), 0⟩,
      ⟨(some 2), none, .mv (.k (.i .i64 (0))), 0⟩])
    (.seq (.seq (.reg false [
      ⟨(some 8), none, .fadr 0 (.t 1), 0⟩,
      ⟨(some 9), none, .load none (.t 8), 0⟩,
      ⟨(some 10), none, .bin .lss (.t 9) (.k (.i .i64 (0))), 0⟩,
      ⟨(some 11), none, .mv (.t 10), 0⟩,
      ⟨(some 12), (some (11, false)), .fadr 0 (.t 1), 0⟩,
      ⟨(some 13), (some (11, false)), .load none (.t 12), 0⟩,
      ⟨(some 14), (some (11, false)), .bin .gtr (.t 13) (.k (.i .i64 (64))), 0⟩,
      ⟨(some 15), none, .pick (.t 11) (.k (.b true)) (.t 14), 0⟩,
      ⟨(some 16), none, .mv (.t 15), 0⟩,
      ⟨(some 17), (some (16, false)), .fadr 1 (.t 1), 0⟩,
      ⟨(some 18), (some (16, false)), .load none (.t 17), 0⟩,
      ⟨(some 19), (some (16, false)), .len false (.t 18), 0⟩,
      ⟨(some 20), (some (16, false)), .fadr 0 (.t 1), 0⟩,
      ⟨(some 21), (some (16, false)), .load none (.t 20), 0⟩,
      ⟨(some 22), (some (16, false)), .bin .neq (.t 19) (.t 21), 0⟩,
      ⟨(some 23), none, .pick (.t 16) (.k (.b true)) (.t 22), 0⟩,
      ⟨(some 24), none, .mv (.t 23), 0⟩,
      ⟨(some 25), (some (24, false)), .fadr 2 (.t 1), 0⟩,
      ⟨(some 26), (some (24, false)), .load none (.t 25), 0⟩,
      ⟨(some 27), (some (24, false)), .len false (.t 26), 0⟩,
      ⟨(some 28), (some (24, false)), .fadr 0 (.t 1), 0⟩,
      ⟨(some 29), (some (24, false)), .load none (.t 28), 0⟩,
      ⟨(some 30), (some (24, false)), .bin .neq (.t 27) (.t 29), 0⟩,
      ⟨(some 31), none, .pick (.t 24) (.k (.b true)) (.t 30), 0⟩])
    (.ite (.t 31) (.seq (.reg false [
      ⟨(some 2), none, .mv (.k (.i .i64 (140))), 0⟩])
    (.cutg 2 [2] [] .ret)) (.skip)))
    (.cutg 2 [1] [1] (.seq (.seq (.reg false [
      ⟨(some 32), none, .fadr 0 (.t 1), 0⟩,
      ⟨(some 33), none, .load none (.t 32), 0⟩,
      ⟨(some 34), none, .mv (.k (.i .i64 (0))), 0⟩])
    (.blk 0 (.loop a14L1)))
    (.cutg 2 [1] [1] (.seq (.seq (.reg false [
      ⟨(some 65), none, .fadr 0 (.t 1), 0⟩,
      ⟨(some 66), none, .load none (.t 65), 0⟩,
      ⟨(some 67), none, .mv (.k (.i .i64 (0))), 0⟩])
    (.blk 4 (.loop a14L3)))
    (.cutg 2 [] [] (.seq (.reg false [
      ⟨(some 2), none, .mv (.k (.i .i64 (0))), 0⟩])
    (.cutg 2 [2] [] .ret))))))))⟩

theorem ok14 : okFn Tryd.prog 2 Tryd.f14 a14 = true := by kernel_rfl

/-- phasor/phasorlaw14.alive -/
def a16 : AFn := ⟨0, 209, [.t 0],
    .seq (.reg false [
      ⟨(some 0), none, .mv (.k (.b false)), 0⟩])
    (.seq (.reg false [
      ⟨(some 24), none, .call 0 (.k (.fn (.func 11) [] [])) [.k (.i .i64 (2))], 0⟩,
      ⟨(some 23), none, .mv (.t 24), 0⟩,
      ⟨(some 25), none, .ext (.t 23) 0, 0⟩,
      ⟨(some 26), none, .ext (.t 23) 1, 0⟩,
      ⟨(some 1), none, .alloc true 24 [.i .i64 (0), .sl none 0 (.ex 0), .sl none 0 (.ex 0)], 0⟩,
      ⟨none, none, .store 3 (.t 1) (.t 25), 0⟩,
      ⟨(some 2), none, .mv (.t 26), 0⟩])
    (.seq (.reg false [
      ⟨(some 28), none, .load (some 3) (.t 1), 0⟩,
      ⟨(some 29), none, .bslice 3 1 1 [.i .i64 (0)] [(0, 1, .k (.i .i64 (0)))], 0⟩,
      ⟨(some 30), none, .call 0 (.k (.fn (.func 20) [] [])) [.t 28, .k (.i .i64 (9)), .t 29], 0⟩,
      ⟨(some 27), none, .mv (.t 30), 0⟩,
      ⟨(some 31), none, .ext (.t 27) 0, 0⟩,
      ⟨(some 32), none, .ext (.t 27) 1, 0⟩,
      ⟨none, none, .store 3 (.t 1) (.t 31), 0⟩,
      ⟨(some 3), none, .mv (.t 32), 0⟩])
    (.seq (.reg false [
      ⟨(some 34), none, .load (some 3) (.t 1), 0⟩,
      ⟨(some 35), none, .bslice 3 1 2 [.i .i64 (0), .i .i64 (0)] [(0, 1, .k (.i .i64 (0))), (1, 1, .k (.i .i64 (1)))], 0⟩,
      ⟨(some 36), none, .call 0 (.k (.fn (.func 20) [] [])) [.t 34, .k (.i .i64 (11)), .t 35], 0⟩,
      ⟨(some 33), none, .mv (.t 36), 0⟩,
      ⟨(some 37), none, .ext (.t 33) 0, 0⟩,
      ⟨(some 38), none, .ext (.t 33) 1, 0⟩,
      ⟨none, none, .store 3 (.t 1) (.t 37), 0⟩,
      ⟨(some 4), none, .mv (.t 38), 0⟩])
    (.seq (.reg false [
      ⟨(some 40), none, .load (some 3) (.t 1), 0⟩,
      ⟨(some 41), none, .call 0 (.k (.fn (.func 23) [] [])) [.t 40, .k (.i .i64 (0))], 0⟩,
      ⟨(some 39), none, .mv (.t 41), 0⟩,
      ⟨(some 42), none, .ext (.t 39) 0, 0⟩,
      ⟨(some 43), none, .ext (.t 39) 1, 0⟩,
      ⟨(some 5), none, .mv (.t 42), 0⟩,
      ⟨(some 6), none, .mv (.t 43), 0⟩])
    (.seq (.reg false [
      ⟨(some 45), none, .load (some 3) (.t 1), 0⟩,
      ⟨(some 46), none, .call 0 (.k (.fn (.func 24) [] [])) [.t 45, .k (.i .i64 (0)), .k (.i .i64 (1))], 0⟩,
      ⟨(some 44), none, .mv (.t 46), 0⟩,
      ⟨(some 47), none, .ext (.t 44) 0, 0⟩,
      ⟨(some 48), none, .ext (.t 44) 1, 0⟩,
      ⟨(some 7), none, .alloc true 24 [.i .i64 (0), .sl none 0 (.ex 0), .sl none 0 (.ex 0)], 0⟩,
      ⟨none, none, .store 3 (.t 7) (.t 47), 0⟩,
      ⟨(some 8), none, .mv (.t 48), 0⟩])
    (.seq (.reg false [
      ⟨(some 50), none, .load (some 3) (.t 7), 0⟩,
      ⟨(some 51), none, .call 0 (.k (.fn (.func 23) [] [])) [.t 50, .k (.i .i64 (1))], 0⟩,
      ⟨(some 49), none, .mv (.t 51), 0⟩,
      ⟨(some 52), none, .ext (.t 49) 0, 0⟩,
      ⟨(some 53), none, .ext (.t 49) 1, 0⟩,
      ⟨(some 9), none, .mv (.t 52), 0⟩,
      ⟨(some 10), none, .mv (.t 53), 0⟩])
    (.seq (.reg false [
      ⟨(some 55), none, .load (some 3) (.t 7), 0⟩,
      ⟨(some 56), none, .call 0 (.k (.fn (.func 24) [] [])) [.t 55, .k (.i .i64 (1)), .k (.i .i64 (0))], 0⟩,
      ⟨(some 54), none, .mv (.t 56), 0⟩,
      ⟨(some 57), none, .ext (.t 54) 0, 0⟩,
      ⟨(some 58), none, .ext (.t 54) 1, 0⟩,
      ⟨(some 11), none, .alloc true 24 [.i .i64 (0), .sl none 0 (.ex 0), .sl none 0 (.ex 0)], 0⟩,
      ⟨none, none, .store 3 (.t 11) (.t 57), 0⟩,
      ⟨(some 12), none, .mv (.t 58), 0⟩])
    (.seq (.reg false [
      ⟨(some 60), none, .load (some 3) (.t 1), 0⟩,
      ⟨(some 61), none, .call 0 (.k (.fn (.func 42) [] [])) [.t 60], 0⟩,
      ⟨(some 59), none, .mv (.t 61), 0⟩,
      ⟨(some 62), none, .ext (.t 59) 0, 0⟩,
      ⟨(some 63), none, .ext (.t 59) 1, 0⟩,
      ⟨(some 13), none, .mv (.t 62), 0⟩,
      ⟨(some 14), none, .mv (.t 63), 0⟩])
    (.seq (.reg false [
      ⟨(some 65), none, .load (some 3) (.t 1), 0⟩,
      ⟨(some 66), none, .bslice 3 1 1 [.i .i64 (0)] [(0, 1, .k (.i .i64 (0)))], 0⟩,
      ⟨(some 67), none, .call 0 (.k (.fn (.func 22) [] [])) [.t 65, .t 66], 0⟩,
      ⟨(some 64), none, .mv (.t 67), 0⟩,
      ⟨(some 68), none, .ext (.t 64) 0, 0⟩,
      ⟨(some 69), none, .ext (.t 64) 1, 0⟩,
      ⟨(some 15), none, .mv (.t 68), 0⟩,
      ⟨(some 16), none, .mv (.t 69), 0⟩])
    (.seq (.reg false [
      ⟨(some 71), none, .load (some 3) (.t 1), 0⟩,
      ⟨(some 72), none, .build [.i .i64 (0), .i .u64 (0), .i .u64 (0), .i .i64 (0)] [(0, 1, .k (.i .i64 (2))), (1, 1, .k (.i .u64 (3))), (2, 1, .k (.i .u64 (3))), (3, 1, .k (.i .i64 (2)))], 0⟩,
      ⟨(some 73), none, .call 0 (.k (.fn (.func 25) [] [])) [.t 71, .t 72], 0⟩,
      ⟨(some 70), none, .mv (.t 73), 0⟩,
      ⟨(some 74), none, .ext (.t 70) 0, 0⟩,
      ⟨(some 75), none, .ext (.t 70) 1, 0⟩,
      ⟨(some 17), none, .mv (.t 74), 0⟩,
      ⟨(some 18), none, .mv (.t 75), 0⟩])
    (.seq (.seq (.reg false [
      ⟨(some 76), none, .mv (.t 2), 0⟩,
      ⟨(some 77), none, .call 0 (.k (.fn (.func 13) [] [])) [.t 76], 0⟩,
      ⟨(some 78), none, .bin .neq (.t 77) (.k (.i .i64 (0))), 0⟩,
      ⟨(some 79), none, .mv (.t 78), 0⟩,
      ⟨(some 80), (some (79, false)), .mv (.t 3), 0⟩,
      ⟨(some 81), (some (79, false)), .call 0 (.k (.fn (.func 13) [] [])) [.t 80], 0⟩,
      ⟨(some 82), (some (79, false)), .bin .neq (.t 81) (.k (.i .i64 (0))), 0⟩,
      ⟨(some 83), none, .pick (.t 79) (.k (.b true)) (.t 82), 0⟩,
      ⟨(some 84), none, .mv (.t 83), 0⟩,
      ⟨(some 85), (some (84, false)), .mv (.t 4), 0⟩,
      ⟨(some 86), (some (84, false)), .call 0 (.k (.fn (.func 13) [] [])) [.t 85], 0⟩,
      ⟨(some 87), (some (84, false)), .bin .neq (.t 86) (.k (.i .i64 (0))), 0⟩,
      ⟨(some 88), none, .pick (.t 84) (.k (.b true)) (.t 87), 0⟩,
      ⟨(some 89), none, .mv (.t 88), 0⟩,
      ⟨(some 90), (some (89, false)), .mv (.t 6), 0⟩,
      ⟨(some 91), (some (89, false)), .call 0 (.k (.fn (.func 13) [] [])) [.t 90], 0⟩,
      ⟨(some 92), (some (89, false)), .bin .neq (.t 91) (.k (.i .i64 (0))), 0⟩,
      ⟨(some 93), none, .pick (.t 89) (.k (.b true)) (.t 92), 0⟩,
      ⟨(some 94), none, .mv (.t 93), 0⟩,
      ⟨(some 95), (some (94, false)), .mv (.t 8), 0⟩,
      ⟨(some 96), (some (94, false)), .call 0 (.k (.fn (.func 13) [] [])) [.t 95], 0⟩,
      ⟨(some 97), (some (94, false)), .bin .neq (.t 96) (.k (.i .i64 (0))), 0⟩,
      ⟨(some 98), none, .pick (.t 94) (.k (.b true)) (.t 97), 0⟩,
      ⟨(some 99), none, .mv (.t 98), 0⟩,
      ⟨(some 100), (some (99, false)), .mv (.t 10), 0⟩,
      ⟨(some 101), (some (99, false)), .call 0 (.k (.fn (.func 13) [] [])) [.t 100], 0⟩,
      ⟨(some 102), (some (99, false)), .bin .neq (.t 101) (.k (.i .i64 (0))), 0⟩,
      ⟨(some 103), none, .pick (.t 99) (.k (.b true)) (.t 102), 0⟩,
      ⟨(some 104), none, .mv (.t 103), 0⟩,
      ⟨(some 105), (some (104, false)), .mv (.t 14), 0⟩,
      ⟨(some 106), (some (104, false)), .call 0 (.k (.fn (.func 13) [] [])) [.t 105], 0⟩,
      ⟨(some 107), (some (104, false)), .bin .neq (.t 106) (.k (.i .i64 (0))), 0⟩,
      ⟨(some 108), none, .pick (.t 104) (.k (.b true)) (.t 107), 0⟩,
      ⟨(some 109), none, .mv (.t 108), 0⟩,
      ⟨(some 110), (some (109, false)), .mv (.t 16), 0⟩,
      ⟨(some 111), (some (109, false)), .call 0 (.k (.fn (.func 13) [] [])) [.t 110], 0⟩,
      ⟨(some 112), (some (109, false)), .bin .neq (.t 111) (.k (.i .i64 (0))), 0⟩,
      ⟨(some 113), none, .pick (.t 109) (.k (.b true)) (.t 112), 0⟩,
      ⟨(some 114), none, .mv (.t 113), 0⟩,
      ⟨(some 115), (some (114, false)), .mv (.t 18), 0⟩,
      ⟨(some 116), (some (114, false)), .call 0 (.k (.fn (.func 13) [] [])) [.t 115], 0⟩,
      ⟨(some 117), (some (114, false)), .bin .neq (.t 116) (.k (.i .i64 (0))), 0⟩,
      ⟨(some 118), none, .pick (.t 114) (.k (.b true)) (.t 117), 0⟩,
      ⟨(some 119), none, .mv (.t 118), 0⟩,
      ⟨(some 120), (some (119, false)), .fadr 1 (.t 1), 0⟩,
      ⟨(some 121), (some (119, false)), .load none (.t 120), 0⟩,
      ⟨(some 122), (some (119, false)), .len false (.t 121), 0⟩,
      ⟨(some 123), (some (119, false)), .bin .neq (.t 122) (.k (.i .i64 (2))), 0⟩,
      ⟨(some 124), none, .pick (.t 119) (.k (.b true)) (.t 123), 0⟩,
      ⟨(some 125), none, .mv (.t 124), 0⟩,
      ⟨(some 126), (some (125, false)), .mv (.t 13), 0⟩,
      ⟨(some 127), (some (125, false)), .len false (.t 126), 0⟩,
      ⟨(some 128), (some (125, false)), .bin .neq (.t 127) (.k (.i .i64 (2))), 0⟩,
      ⟨(some 129), none, .pick (.t 125) (.k (.b true)) (.t 128), 0⟩,
      ⟨(some 130), none, .mv (.t 129), 0⟩,
      ⟨(some 131), (some (130, false)), .fadr 1 (.t 7), 0⟩,
      ⟨(some 132), (some (130, false)), .load none (.t 131), 0⟩,
      ⟨(some 133), (some (130, false)), .len false (.t 132), 0⟩,
      ⟨(some 134), (some (130, false)), .bin .neq (.t 133) (.k (.i .i64 (2))), 0⟩,
      ⟨(some 135), none, .pick (.t 130) (.k (.b true)) (.t 134), 0⟩])
    (.ite (.t 135) (.seq (.reg false [
      ⟨(some 0), none, .mv (.k (.b false)), 0⟩])
    (.cutg 2 [0] [] .ret)) (.skip)))
    (.cutg 2 [1, 5, 7, 9, 12, 13, 15, 17] [1, 7] (.seq (.reg false [
      ⟨(some 137), none, .load (some 3) (.t 1), 0⟩,
      ⟨(some 138), none, .bslice 3 1 3 [.i .i64 (0), .i .i64 (0), .i .i64 (0)] [(0, 1, .k (.i .i64 (0))), (1, 1, .k (.i .i64 (1))), (2, 1, .k (.i .i64 (2)))], 0⟩,
      ⟨(some 139), none, .call 0 (.k (.fn (.func 20) [] [])) [.t 137, .k (.i .i64 (18)), .t 138], 0⟩,
      ⟨(some 136), none, .mv (.t 139), 0⟩,
      ⟨(some 140), none, .ext (.t 136) 0, 0⟩,
      ⟨(some 141), none, .ext (.t 136) 1, 0⟩,
      ⟨(some 19), none, .alloc true 24 [.i .i64 (0), .sl none 0 (.ex 0), .sl none 0 (.ex 0)], 0⟩,
      ⟨none, none, .store 3 (.t 19) (.t 140), 0⟩,
      ⟨(some 20), none, .mv (.t 141), 0⟩])
    (.seq (.reg false [
      ⟨(some 143), none, .load (some 3) (.t 1), 0⟩,
      ⟨(some 144), none, .call 0 (.k (.fn (.func 43) [] [])) [.t 143, .k (.i .i64 (0)), .k (.i .i64 (1))], 0⟩,
      ⟨(some 142), none, .mv (.t 144), 0⟩,
      ⟨(some 145), none, .ext (.t 142) 0, 0⟩,
      ⟨(some 146), none, .ext (.t 142) 1, 0⟩,
      ⟨(some 21), none, .alloc true 24 [.i .i64 (0), .sl none 0 (.ex 0), .sl none 0 (.ex 0)], 0⟩,
      ⟨none, none, .store 3 (.t 21) (.t 145), 0⟩,
      ⟨(some 22), none, .mv (.t 146), 0⟩])
    (.seq (.reg false [
      ⟨(some 147), none, .mv (.t 5), 0⟩,
      ⟨(some 148), none, .bin .eql (.t 147) (.k (.i .i64 (2))), 0⟩,
      ⟨(some 149), none, .mv (.t 148), 0⟩,
      ⟨(some 150), (some (149, true)), .mv (.t 9), 0⟩,
      ⟨(some 151), (some (149, true)), .bin .eql (.t 150) (.k (.i .i64 (1))), 0⟩,
      ⟨(some 152), none, .pick (.t 149) (.t 151) (.k (.b false)), 0⟩,
      ⟨(some 153), none, .mv (.t 152), 0⟩,
      ⟨(some 154), (some (153, true)), .mv (.t 12), 0⟩,
      ⟨(some 155), (some (153, true)), .call 0 (.k (.fn (.func 13) [] [])) [.t 154], 0⟩,
      ⟨(some 156), (some (153, true)), .bin .eql (.t 155) (.k (.i .i64 (142))), 0⟩,
      ⟨(some 157), none, .pick (.t 153) (.t 156) (.k (.b false)), 0⟩,
      ⟨(some 158), none, .mv (.t 157), 0⟩,
      ⟨(some 159), (some (158, true)), .mv (.t 13), 0⟩,
      ⟨(some 160), (some (158, true)), .iadr 4 (.t 159) (.k (.i .i64 (0))), 0⟩,
      ⟨(some 161), (some (158, true)), .load (some 4) (.t 160), 0⟩,
      ⟨(some 162), (some (158, true)), .build [.i .i64 (0), .i .u64 (0), .i .u64 (0), .i .i64 (0)] [(0, 1, .k (.i .i64 (2))), (1, 1, .k (.i .u64 (3)))], 0⟩,
      ⟨(some 163), (some (158, true)), .eqs false [false, false, false, false] (.t 161) (.t 162), 0⟩,
      ⟨(some 164), none, .pick (.t 158) (.t 163) (.k (.b false)), 0⟩,
      ⟨(some 165), none, .mv (.t 164), 0⟩,
      ⟨(some 166), (some (165, true)), .mv (.t 13), 0⟩,
      ⟨(some 167), (some (165, true)), .iadr 4 (.t 166) (.k (.i .i64 (1))), 0⟩,
      ⟨(some 168), (some (165, true)), .load (some 4) (.t 167), 0⟩,
      ⟨(some 169), (some (165, true)), .build [.i .i64 (0), .i .u64 (0), .i .u64 (0), .i .i64 (0)] [(0, 1, .k (.i .i64 (2))), (2, 1, .k (.i .u64 (3)))], 0⟩,
      ⟨(some 170), (some (165, true)), .eqs false [false, false, false, false] (.t 168) (.t 169), 0⟩,
      ⟨(some 171), none, .pick (.t 165) (.t 170) (.k (.b false)), 0⟩,
      ⟨(some 172), none, .mv (.t 171), 0⟩,
      ⟨(some 173), (some (172, true)), .mv (.t 15), 0⟩,
      ⟨(some 174), (some (172, true)), .bin .eql (.t 173) (.k (.i .i64 (1))), 0⟩,
      ⟨(some 175), none, .pick (.t 172) (.t 174) (.k (.b false)), 0⟩,
      ⟨(some 176), none, .mv (.t 175), 0⟩,
      ⟨(some 177), (some (176, true)), .mv (.t 17), 0⟩,
      ⟨(some 178), (some (176, true)), .bin .eql (.t 177) (.k (.i .i64 (1))), 0⟩,
      ⟨(some 179), none, .pick (.t 176) (.t 178) (.k (.b false)), 0⟩,
      ⟨(some 180), none, .mv (.t 179), 0⟩,
      ⟨(some 181), (some (180, true)), .fadr 1 (.t 7), 0⟩,
      ⟨(some 182), (some (180, true)), .load none (.t 181), 0⟩,
      ⟨(some 183), (some (180, true)), .iadr 4 (.t 182) (.k (.i .i64 (0))), 0⟩,
      ⟨(some 184), (some (180, true)), .load (some 4) (.t 183), 0⟩,
      ⟨(some 185), (some (180, true)), .build [.i .i64 (0), .i .u64 (0), .i .u64 (0), .i .i64 (0)] [(0, 1, .k (.i .i64 (2))), (2, 1, .k (.i .u64 (1))), (3, 1, .k (.i .i64 (2)))], 0⟩,
      ⟨(some 186), (some (180, true)), .eqs false [false, false, false, false] (.t 184) (.t 185), 0⟩,
      ⟨(some 187), none, .pick (.t 180) (.t 186) (.k (.b false)), 0⟩,
      ⟨(some 188), none, .mv (.t 187), 0⟩,
      ⟨(some 189), (some (188, true)), .mv (.t 20), 0⟩,
      ⟨(some 190), (some (188, true)), .call 0 (.k (.fn (.func 13) [] [])) [.t 189], 0⟩,
      ⟨(some 191), (some (188, true)), .bin .eql (.t 190) (.k (.i .i64 (61))), 0⟩,
      ⟨(some 192), none, .pick (.t 188) (.t 191) (.k (.b false)), 0⟩,
      ⟨(some 193), none, .mv (.t 192), 0⟩,
      ⟨(some 194), (some (193, true)), .mv (.t 22), 0⟩,
      ⟨(some 195), (some (193, true)), .call 0 (.k (.fn (.func 13) [] [])) [.t 194], 0⟩,
      ⟨(some 196), (some (193, true)), .bin .eql (.t 195) (.k (.i .i64 (0))), 0⟩,
      ⟨(some 197), none, .pick (.t 193) (.t 196) (.k (.b false)), 0⟩,
      ⟨(some 198), none, .mv (.t 197), 0⟩,
      ⟨(some 199), (some (198, true)), .load (some 3) (.t 21), 0⟩,
      ⟨(some 200), (some (198, true)), .call 0 (.k (.fn (.func 14) [] [])) [.t 199], 0⟩,
      ⟨(some 201), (some (198, true)), .call 0 (.k (.fn (.func 13) [] [])) [.t 200], 0⟩,
      ⟨(some 202), (some (198, true)), .bin .eql (.t 201) (.k (.i .i64 (0))), 0⟩,
      ⟨(some 203), none, .pick (.t 198) (.t 202) (.k (.b false)), 0⟩,
      ⟨(some 204), none, .mv (.t 203), 0⟩,
      ⟨(some 205), (some (204, true)), .load (some 3) (.t 1), 0⟩,
      ⟨(some 206), (some (204, true)), .load (some 3) (.t 1), 0⟩,
      ⟨(some 207), (some (204, true)), .call 0 (.k (.fn (.func 19) [] [])) [.t 205, .t 206], 0⟩,
      ⟨(some 208), none, .pick (.t 204) (.t 207) (.k (.b false)), 0⟩,
      ⟨(some 0), none, .mv (.t 208), 0⟩])
    (.cutg 2 [0] [] .ret))))))))))))))))⟩

theorem ok16 : okFn Tryd.prog 2 Tryd.f16 a16 = true := by kernel_rfl

/-- phasor/phasorref14.Copy -/
def a17 : AFn := ⟨1, 20, [.cell 2 (some 3)],
    .seq (.reg false [
      ⟨(some 1), none, .box true 24 (.t 0), 0⟩,
      ⟨(some 2), none, .alloc true 24 [.i .i64 (0), .sl none 0 (.ex 0), .sl none 0 (.ex 0)], 0⟩])
    (.seq (.reg false [
      ⟨(some 4), none, .fadr 0 (.t 1), 0⟩,
      ⟨(some 5), none, .load none (.t 4), 0⟩,
      ⟨(some 6), none, .build [.i .i64 (0), .sl none 0 (.ex 0), .sl none 0 (.ex 0)] [(0, 1, .t 5)], 0⟩,
      ⟨(some 3), none, .alloc true 24 [.i .i64 (0), .sl none 0 (.ex 0), .sl none 0 (.ex 0)], 0⟩,
      ⟨none, none, .store 3 (.t 3) (.t 6), 0⟩])
    (.seq (.reg false [
      ⟨(some 7), none, .fadr 1 (.t 3), 0⟩,
      ⟨(some 8), none, .load none (.t 7), 0⟩,
      ⟨(some 9), none, .fadr 1 (.t 1), 0⟩,
      ⟨(some 10), none, .load none (.t 9), 0⟩,
      ⟨(some 11), none, .app 39 4 32 (.t 8) (.t 10), 0⟩,
      ⟨(some 12), none, .fadr 1 (.t 3), 0⟩,
      ⟨none, none, .store 1 (.t 12) (.t 11), 0⟩])
    (.seq (.reg false [
      ⟨(some 13), none, .fadr 2 (.t 3), 0⟩,
      ⟨(some 14), none, .load none (.t 13), 0⟩,
      ⟨(some 15), none, .fadr 2 (.t 1), 0⟩,
      ⟨(some 16), none, .load none (.t 15), 0⟩,
      ⟨(some 17), none, .app 39 4 32 (.t 14) (.t 16), 0⟩,
      ⟨(some 18), none, .fadr 2 (.t 3), 0⟩,
      ⟨none, none, .store 1 (.t 18) (.t 17), 0⟩])
    (.seq (.reg false [
      ⟨(some 19), none, .load (some 3) (.t 3), 0⟩,
      ⟨none, none, .store 3 (.t 2) (.t 19), 0⟩])
    (.cutg 2 [2] [2] .ret)))))⟩

theorem ok17 : okFn Tryd.prog 2 Tryd.f17 a17 = true := by kernel_rfl

/-- phasor/pauli.Mul -/
def a18 : AFn := ⟨2, 14, [.cell 4 (some 4), .t 5],
    .seq (.reg false [
      ⟨(some 2), none, .box true 39 (.t 0), 0⟩,
      ⟨(some 3), none, .box true 39 (.t 1), 0⟩,
      ⟨(some 4), none, .alloc true 39 [.i .i64 (0), .i .u64 (0), .i .u64 (0), .i .i64 (0)], 0⟩,
      ⟨(some 5), none, .mv (.k (.i .i64 (0))), 0⟩])
    (.seq (.seq (.reg false [
      ⟨(some 6), none, .load (some 4) (.t 2), 0⟩,
      ⟨(some 7), none, .load (some 4) (.t 3), 0⟩,
      ⟨(some 8), none, .call 0 (.k (.fn (.func 44) [] [])) [.t 6, .t 7], 0⟩,
      ⟨(some 9), none, .un .not (.t 8), 0⟩])
    (.ite (.t 9) (.seq (.reg false [
      ⟨(some 10), none, .build [.i .i64 (0), .i .u64 (0), .i .u64 (0), .i .i64 (0)] [], 0⟩,
      ⟨none, none, .store 4 (.t 4) (.t 10), 0⟩,
      ⟨(some 5), none, .mv (.k (.i .i64 (130))), 0⟩])
    (.cut [4, 5] [4] .ret)) (.skip)))
    (.cut [2, 3, 4] [2, 3, 4] (.seq (.reg false [
      ⟨(some 11), none, .load (some 4) (.t 2), 0⟩,
      ⟨(some 12), none, .load (some 4) (.t 3), 0⟩,
      ⟨(some 13), none, .call 0 (.k (.fn (.func 45) [] [])) [.t 11, .t 12], 0⟩,
      ⟨none, none, .store 4 (.t 4) (.t 13), 0⟩,
      ⟨(some 5), none, .mv (.k (.i .i64 (0))), 0⟩])
    (.cut [4, 5] [4] .ret))))⟩

theorem ok18 : okFn Tryd.prog 2 Tryd.f18 a18 = true := by kernel_rfl

/-- phasor/tableau.Same -/
def a19 : AFn := ⟨2, 37, [.t 4],
    .seq (.reg false [
      ⟨(some 2), none, .box true 24 (.t 0), 0⟩,
      ⟨(some 3), none, .box true 24 (.t 1), 0⟩,
      ⟨(some 4), none, .mv (.k (.b false)), 0⟩])
    (.seq (.reg false [
      ⟨(some 10), none, .load (some 3) (.t 2), 0⟩,
      ⟨(some 11), none, .call 0 (.k (.fn (.func 42) [] [])) [.t 10], 0⟩,
      ⟨(some 9), none, .mv (.t 11), 0⟩,
      ⟨(some 12), none, .ext (.t 9) 0, 0⟩,
      ⟨(some 13), none, .ext (.t 9) 1, 0⟩,
      ⟨(some 5), none, .mv (.t 12), 0⟩,
      ⟨(some 6), none, .mv (.t 13), 0⟩])
    (.seq (.reg false [
      ⟨(some 15), none, .load (some 3) (.t 3), 0⟩,
      ⟨(some 16), none, .call 0 (.k (.fn (.func 42) [] [])) [.t 15], 0⟩,
      ⟨(some 14), none, .mv (.t 16), 0⟩,
      ⟨(some 17), none, .ext (.t 14) 0, 0⟩,
      ⟨(some 18), none, .ext (.t 14) 1, 0⟩,
      ⟨(some 7), none, .mv (.t 17), 0⟩,
      ⟨(some 8), none, .mv (.t 18), 0⟩])
    (.seq (.reg false [
      ⟨(some 19), none, .mv (.t 6), 0⟩,
      ⟨(some 20), none, .bin .eql (.t 19) (.k (.i .i64 (0))), 0⟩,
      ⟨(some 21), none, .mv (.t 20), 0⟩,
      ⟨(some 22), (some (21, true)), .mv (.t 8), 0⟩,
      ⟨(some 23), (some (21, true)), .bin .eql (.t 22) (.k (.i .i64 (0))), 0⟩,
      ⟨(some 24), none, .pick (.t 21) (.t 23) (.k (.b false)), 0⟩,
      ⟨(some 25), none, .mv (.t 24), 0⟩,
      ⟨(some 26), (some (25, true)), .fadr 0 (.t 2), 0⟩,
      ⟨(some 27), (some (25, true)), .load none (.t 26), 0⟩,
      ⟨(some 28), (some (25, true)), .fadr 0 (.t 3), 0⟩,
      ⟨(some 29), (some (25, true)), .load none (.t 28), 0⟩,
      ⟨(some 30), (some (25, true)), .bin .eql (.t 27) (.t 29), 0⟩,
      ⟨(some 31), none, .pick (.t 25) (.t 30) (.k (.b false)), 0⟩,
      ⟨(some 32), none, .mv (.t 31), 0⟩,
      ⟨(some 33), (some (32, true)), .mv (.t 5), 0⟩,
      ⟨(some 34), (some (32, true)), .mv (.t 7), 0⟩,
      ⟨(some 35), (some (32, true)), .call 0 (.k (.fn (.func 46) [] [])) [.t 33, .t 34], 0⟩,
      ⟨(some 36), none, .pick (.t 32) (.t 35) (.k (.b false)), 0⟩,
      ⟨(some 4), none, .mv (.t 36), 0⟩])
    (.cut [4] [] .ret))))⟩

theorem ok19 : okFn Tryd.prog 2 Tryd.f19 a19 = true := by kernel_rfl

/-- phasor/tableau.Gate -/
def a20 : AFn := ⟨3, 43, [.cell 6 (some 3), .t 7],
    .seq (.reg false [
      ⟨(some 3), none, .box true 24 (.t 0), 0⟩,
      ⟨(some 4), none, .box false 43 (.t 1), 0⟩,
      ⟨(some 5), none, .box false 44 (.t 2), 0⟩,
      ⟨(some 6), none, .alloc true 24 [.i .i64 (0), .sl none 0 (.ex 0), .sl none 0 (.ex 0)], 0⟩,
      ⟨(some 7), none, .mv (.k (.i .i64 (0))), 0⟩])
    (.seq (.seq (.reg false [
      ⟨(some 12), none, .load (some 3) (.t 3), 0⟩,
      ⟨(some 13), none, .call 0 (.k (.fn (.func 14) [] [])) [.t 12], 0⟩,
      ⟨(some 8), none, .mv (.t 13), 0⟩])
    (.seq (.reg false [
      ⟨(some 14), none, .mv (.t 8), 0⟩,
      ⟨(some 15), none, .bin .neq (.t 14) (.k (.i .i64 (0))), 0⟩])
    (.ite (.t 15) (.seq (.reg false [
      ⟨(some 16), none, .build [.i .i64 (0), .sl none 0 (.ex 0), .sl none 0 (.ex 0)] [], 0⟩,
      ⟨(some 17), none, .mv (.t 8), 0⟩,
      ⟨none, none, .store 3 (.t 6) (.t 16), 0⟩,
      ⟨(some 7), none, .mv (.t 17), 0⟩])
    (.cutg 2 [6, 7] [6] .ret)) (.skip))))
    (.cutg 2 [3, 4, 5, 6] [3, 6] (.seq (.seq (.reg false [
      ⟨(some 18), none, .load none (.t 4), 0⟩,
      ⟨(some 19), none, .load none (.t 5), 0⟩,
      ⟨(some 20), none, .fadr 0 (.t 3), 0⟩,
      ⟨(some 21), none, .load none (.t 20), 0⟩,
      ⟨(some 22), none, .call 0 (.k (.fn (.func 47) [] [])) [.t 18, .t 19, .t 21], 0⟩,
      ⟨(some 9), none, .mv (.t 22), 0⟩])
    (.seq (.reg false [
      ⟨(some 23), none, .mv (.t 9), 0⟩,
      ⟨(some 24), none, .bin .neq (.t 23) (.k (.i .i64 (0))), 0⟩])
    (.ite (.t 24) (.seq (.reg false [
      ⟨(some 25), none, .build [.i .i64 (0), .sl none 0 (.ex 0), .sl none 0 (.ex 0)] [], 0⟩,
      ⟨(some 26), none, .mv (.t 9), 0⟩,
      ⟨none, none, .store 3 (.t 6) (.t 25), 0⟩,
      ⟨(some 7), none, .mv (.t 26), 0⟩])
    (.cutg 2 [6, 7] [6] .ret)) (.skip))))
    (.cutg 2 [3, 4, 5, 6] [3, 6] (.seq (.seq (.reg false [
      ⟨(some 27), none, .load none (.t 4), 0⟩,
      ⟨(some 28), none, .call 0 (.k (.fn (.func 48) [] [])) [.t 27], 0⟩,
      ⟨(some 29), none, .un .not (.t 28), 0⟩])
    (.ite (.t 29) (.seq (.reg false [
      ⟨(some 30), none, .build [.i .i64 (0), .sl none 0 (.ex 0), .sl none 0 (.ex 0)] [], 0⟩,
      ⟨none, none, .store 3 (.t 6) (.t 30), 0⟩,
      ⟨(some 7), none, .mv (.k (.i .i64 (141))), 0⟩])
    (.cutg 2 [6, 7] [6] .ret)) (.skip)))
    (.cutg 2 [3, 4, 5, 6] [3, 6] (.seq (.reg false [
      ⟨(some 31), none, .load (some 3) (.t 3), 0⟩,
      ⟨(some 32), none, .call 1 (.k (.fn (.func 49) [] [])) [.t 31], 0⟩,
      ⟨(some 10), none, .alloc true 24 [.i .i64 (0), .sl none 0 (.ex 0), .sl none 0 (.ex 0)], 0⟩,
      ⟨none, none, .store 3 (.t 10) (.t 32), 0⟩])
    (.seq (.reg false [
      ⟨(some 33), none, .mkf (.func 50) [] [.t 4, .t 5], 0⟩,
      ⟨(some 11), none, .mv (.t 33), 0⟩])
    (.seq (.reg false [
      ⟨(some 34), none, .mv (.t 11), 0⟩,
      ⟨(some 35), none, .fadr 1 (.t 10), 0⟩,
      ⟨(some 36), none, .load none (.t 35), 0⟩,
      ⟨(some 37), none, .call 2 (.t 34) [.t 36], 0⟩])
    (.seq (.reg false [
      ⟨(some 38), none, .mv (.t 11), 0⟩,
      ⟨(some 39), none, .fadr 2 (.t 10), 0⟩,
      ⟨(some 40), none, .load none (.t 39), 0⟩,
      ⟨(some 41), none, .call 2 (.t 38) [.t 40], 0⟩])
    (.seq (.reg false [
      ⟨(some 42), none, .load (some 3) (.t 10), 0⟩,
      ⟨none, none, .store 3 (.t 6) (.t 42), 0⟩,
      ⟨(some 7), none, .mv (.k (.i .i64 (0))), 0⟩])
    (.cutg 2 [6, 7] [6] .ret))))))))))))⟩

theorem ok20 : okFn Tryd.prog 2 Tryd.f20 a20 = true := by kernel_rfl

def a22L0 : AC :=
    .cutg 2 [1, 2, 7, 25, 26, 27] [2] (.seq (.reg false [
      ⟨(some 28), none, .bin .lss (.t 27) (.t 26), 0⟩])
    (.seq (.ite (.t 28) (.skip) (.cutg 2 [1, 2, 7] [2] (.exit 0)))
    (.cutg 2 [1, 2, 7, 25, 26, 27] [2] (.seq (.blk 1 (.seq (.reg false [
      ⟨(some 29), none, .iadr 1 (.t 25) (.t 27), 0⟩,
      ⟨(some 30), none, .load none (.t 29), 0⟩,
      ⟨(some 9), none, .mv (.t 30), 0⟩])
    (.reg false [
      ⟨(some 31), none, .mv (.t 7), 0⟩,
      ⟨(some 32), none, .mv (.t 9), 0⟩,
      ⟨(some 33), none, .bin .shl (.k (.i .u64 (1))) (.t 32), 0⟩,
      ⟨(some 34), none, .bin .or (.t 31) (.t 33), 0⟩,
      ⟨(some 7), none, .mv (.t 34), 0⟩])))
    (.cutg 2 [1, 2, 7, 25, 26, 27] [2] (.reg false [
      ⟨(some 35), none, .bin .add (.t 27) (.k (.i .i64 (1))), 0⟩,
      ⟨(some 27), none, .mv (.t 35), 0⟩]))))))
def a22L1 : AC :=
    .cutg 2 [1, 2, 7, 10, 40, 41] [2] (.seq (.reg false [
      ⟨(some 42), none, .bin .lss (.t 41) (.t 40), 0⟩])
    (.seq (.ite (.t 42) (.skip) (.cutg 2 [1, 2, 10] [2] (.exit 2)))
    (.cutg 2 [1, 2, 7, 10, 40, 41] [2] (.seq (.blk 3 (.seq (.reg false [
      ⟨(some 43), none, .mv (.t 41), 0⟩,
      ⟨(some 11), none, .mv (.t 43), 0⟩])
    (.seq (.reg false [
      ⟨(some 44), none, .mv (.t 10), 0⟩,
      ⟨(some 45), none, .mv (.t 11), 0⟩,
      ⟨(some 46), none, .iadr 4 (.t 44) (.t 45), 0⟩,
      ⟨(some 47), none, .fadr 1 (.t 46), 0⟩,
      ⟨(some 48), none, .load none (.t 47), 0⟩,
      ⟨(some 49), none, .mv (.t 7), 0⟩,
      ⟨(some 50), none, .bin .and (.t 48) (.t 49), 0⟩,
      ⟨(some 51), none, .iadr 4 (.t 44) (.t 45), 0⟩,
      ⟨(some 52), none, .fadr 1 (.t 51), 0⟩,
      ⟨none, none, .store 1 (.t 52) (.t 50), 0⟩])
    (.reg false [
      ⟨(some 53), none, .mv (.t 10), 0⟩,
      ⟨(some 54), none, .mv (.t 11), 0⟩,
      ⟨(some 55), none, .iadr 4 (.t 53) (.t 54), 0⟩,
      ⟨(some 56), none, .fadr 2 (.t 55), 0⟩,
      ⟨(some 57), none, .load none (.t 56), 0⟩,
      ⟨(some 58), none, .mv (.t 7), 0⟩,
      ⟨(some 59), none, .bin .and (.t 57) (.t 58), 0⟩,
      ⟨(some 60), none, .iadr 4 (.t 53) (.t 54), 0⟩,
      ⟨(some 61), none, .fadr 2 (.t 60), 0⟩,
      ⟨none, none, .store 1 (.t 61) (.t 59), 0⟩]))))
    (.cutg 2 [1, 2, 7, 10, 40, 41] [2] (.reg false [
      ⟨(some 62), none, .bin .add (.t 41) (.k (.i .i64 (1))), 0⟩,
      ⟨(some 41), none, .mv (.t 62), 0⟩]))))))
def a22L2 : AC :=
    .cutg 2 [1, 12, 66, 67, 68] [] (.seq (.reg false [
      ⟨(some 69), none, .bin .lss (.t 68) (.t 67), 0⟩])
    (.seq (.ite (.t 69) (.skip) (.cutg 2 [1, 12] [] (.exit 4)))
    (.cutg 2 [1, 12, 66, 67, 68] [] (.seq (.blk 5 (.seq (.reg false [
      ⟨(some 70), none, .iadr 4 (.t 66) (.t 68), 0⟩,
      ⟨(some 71), none, .load (some 4) (.t 70), 0⟩,
      ⟨(some 14), none, .alloc true 39 [.i .i64 (0), .i .u64 (0), .i .u64 (0), .i .i64 (0)], 0⟩,
      ⟨none, none, .store 4 (.t 14) (.t 71), 0⟩])
    (.seq (.reg false [
      ⟨(some 72), none, .fadr 1 (.t 14), 0⟩,
      ⟨(some 73), none, .load none (.t 72), 0⟩,
      ⟨(some 74), none, .fadr 2 (.t 14), 0⟩,
      ⟨(some 75), none, .load none (.t 74), 0⟩,
      ⟨(some 76), none, .bin .or (.t 73) (.t 75), 0⟩,
      ⟨(some 77), none, .bin .neq (.t 76) (.k (.i .u64 (0))), 0⟩])
    (.ite (.t 77) (.reg false [
      ⟨(some 78), none, .mv (.t 12), 0⟩,
      ⟨(some 79), none, .bin .add (.t 78) (.k (.i .i64 (1))), 0⟩,
      ⟨(some 12), none, .mv (.t 79), 0⟩]) (.skip)))))
    (.cutg 2 [1, 12, 66, 67, 68] [] (.reg false [
      ⟨(some 80), none, .bin .add (.t 68) (.k (.i .i64 (1))), 0⟩,
      ⟨(some 68), none, .mv (.t 80), 0⟩]))))))
/-- phasor/tableau.Cut -/
def a22 : AFn := ⟨2, 85, [.t 4, .t 5],
    .seq (.reg false [
      ⟨(some 2), none, .box true 24 (.t 0), 0⟩,
      ⟨(some 4), none, .mv (.k (.i .i64 (0))), 0⟩,
      ⟨(some 5), none, .mv (.k (.i .i64 (0))), 0⟩])
    (.seq (.seq (.reg false [
      ⟨(some 15), none, .load (some 3) (.t 2), 0⟩,
      ⟨(some 16), none, .call 0 (.k (.fn (.func 14) [] [])) [.t 15], 0⟩,
      ⟨(some 6), none, .mv (.t 16), 0⟩])
    (.seq (.reg false [
      ⟨(some 17), none, .mv (.t 6), 0⟩,
      ⟨(some 18), none, .bin .neq (.t 17) (.k (.i .i64 (0))), 0⟩])
    (.ite (.t 18) (.seq (.reg false [
      ⟨(some 19), none, .mv (.t 6), 0⟩,
      ⟨(some 4), none, .mv (.k (.i .i64 (0))), 0⟩,
      ⟨(some 5), none, .mv (.t 19), 0⟩])
    (.cutg 2 [4, 5] [] .ret)) (.skip))))
    (.cutg 2 [1, 2] [2] (.seq (.seq (.reg false [
      ⟨(some 20), none, .mv (.t 1), 0⟩,
      ⟨(some 21), none, .fadr 0 (.t 2), 0⟩,
      ⟨(some 22), none, .load none (.t 21), 0⟩,
      ⟨(some 23), none, .call 0 (.k (.fn (.func 53) [] [])) [.t 20, .t 22], 0⟩,
      ⟨(some 24), none, .un .not (.t 23), 0⟩])
    (.ite (.t 24) (.seq (.reg false [
      ⟨(some 4), none, .mv (.k (.i .i64 (0))), 0⟩,
      ⟨(some 5), none, .mv (.k (.i .i64 (2))), 0⟩])
    (.cutg 2 [4, 5] [] .ret)) (.skip)))
    (.cutg 2 [1, 2] [2] (.seq (.reg false [
      ⟨(some 7), none, .mv (.k (.i .u64 (0))), 0⟩])
    (.seq (.seq (.reg false [
      ⟨(some 25), none, .mv (.t 1), 0⟩,
      ⟨(some 26), none, .len false (.t 25), 0⟩,
      ⟨(some 27), none, .mv (.k (.i .i64 (0))), 0⟩])
    (.blk 0 (.loop a22L0)))
    (.cutg 2 [1, 2, 7] [2] (.seq (.reg false [
      ⟨(some 36), none, .fadr 1 (.t 2), 0⟩,
      ⟨(some 37), none, .load none (.t 36), 0⟩,
      ⟨(some 38), none, .call 1 (.k (.fn (.func 54) [] [])) [.t 37], 0⟩,
      ⟨(some 10), none, .mv (.t 38), 0⟩])
    (.seq (.seq (.reg false [
      ⟨(some 39), none, .mv (.t 10), 0⟩,
      ⟨(some 40), none, .len false (.t 39), 0⟩,
      ⟨(some 41), none, .mv (.k (.i .i64 (0))), 0⟩])
    (.blk 2 (.loop a22L1)))
    (.cutg 2 [1, 2, 10] [2] (.seq (.reg false [
      ⟨(some 12), none, .mv (.k (.i .i64 (0))), 0⟩])
    (.seq (.seq (.reg false [
      ⟨(some 63), none, .mv (.t 10), 0⟩,
      ⟨(some 64), none, .fadr 0 (.t 2), 0⟩,
      ⟨(some 65), none, .load none (.t 64), 0⟩,
      ⟨(some 66), none, .call 0 (.k (.fn (.func 55) [] [])) [.t 63, .t 65], 0⟩,
      ⟨(some 67), none, .len false (.t 66), 0⟩,
      ⟨(some 68), none, .mv (.k (.i .i64 (0))), 0⟩])
    (.blk 4 (.loop a22L2)))
    (.cutg 2 [1, 12] [] (.seq (.reg false [
      ⟨(some 81), none, .mv (.t 12), 0⟩,
      ⟨(some 82), none, .mv (.t 1), 0⟩,
      ⟨(some 83), none, .len false (.t 82), 0⟩,
      ⟨(some 84), none, .bin .sub (.t 81) (.t 83), 0⟩,
      ⟨(some 4), none, .mv (.t 84), 0⟩,
      ⟨(some 5), none, .mv (.k (.i .i64 (0))), 0⟩])
    (.cutg 2 [4, 5] [] .ret)))))))))))))))⟩

theorem ok22 : okFn Tryd.prog 2 Tryd.f22 a22 = true := by kernel_rfl

/-- phasor/tableau.Odds -/
def a23 : AFn := ⟨2, 26, [.t 4, .t 5],
    .seq (.reg false [
      ⟨(some 2), none, .box true 24 (.t 0), 0⟩,
      ⟨(some 4), none, .mv (.k (.i .i64 (0))), 0⟩,
      ⟨(some 5), none, .mv (.k (.i .i64 (0))), 0⟩])
    (.seq (.seq (.reg false [
      ⟨(some 7), none, .load (some 3) (.t 2), 0⟩,
      ⟨(some 8), none, .mv (.t 1), 0⟩,
      ⟨(some 9), none, .call 0 (.k (.fn (.func 56) [] [])) [.t 7, .t 8], 0⟩,
      ⟨(some 6), none, .mv (.t 9), 0⟩])
    (.seq (.reg false [
      ⟨(some 10), none, .mv (.t 6), 0⟩,
      ⟨(some 11), none, .bin .neq (.t 10) (.k (.i .i64 (0))), 0⟩])
    (.ite (.t 11) (.seq (.reg false [
      ⟨(some 12), none, .mv (.t 6), 0⟩,
      ⟨(some 4), none, .mv (.k (.i .i64 (0))), 0⟩,
      ⟨(some 5), none, .mv (.t 12), 0⟩])
    (.cut [4, 5] [] .ret)) (.skip))))
    (.cut [1, 2] [2] (.seq (.seq (.reg false [
      ⟨(some 13), none, .load (some 3) (.t 2), 0⟩,
      ⟨(some 14), none, .mv (.t 1), 0⟩,
      ⟨(some 15), none, .call 0 (.k (.fn (.func 57) [] [])) [.t 13, .t 14], 0⟩,
      ⟨(some 16), none, .bin .geq (.t 15) (.k (.i .i64 (0))), 0⟩])
    (.ite (.t 16) (.seq (.reg false [
      ⟨(some 4), none, .mv (.k (.i .i64 (2))), 0⟩,
      ⟨(some 5), none, .mv (.k (.i .i64 (0))), 0⟩])
    (.cut [4, 5] [] .ret)) (.skip)))
    (.cut [1, 2] [2] (.seq (.reg true [
      ⟨(some 17), none, .load (some 3) (.t 2), 0⟩,
      ⟨(some 18), none, .fadr 0 (.t 2), 0⟩,
      ⟨(some 19), none, .load none (.t 18), 2⟩,
      ⟨(some 20), none, .mv (.t 1), 0⟩,
      ⟨(some 21), none, .bin .shl (.k (.i .u64 (1))) (.t 20), 8⟩,
      ⟨(some 22), none, .build [.i .i64 (0), .i .u64 (0), .i .u64 (0), .i .i64 (0)] [(0, 1, .t 19), (2, 1, .t 21)], 30⟩,
      ⟨(some 23), none, .call 0 (.k (.fn (.func 58) [] [])) [.t 17, .t 22], 63⟩,
      ⟨(some 24), none, .fld 3 none (.t 23), 127⟩,
      ⟨(some 25), none, .bin .quo (.t 24) (.k (.i .i64 (2))), 255⟩,
      ⟨(some 4), none, .mv (.t 25), 511⟩,
      ⟨(some 5), none, .mv (.k (.i .i64 (0))), 1023⟩])
    (.cut [4, 5] [] .ret))))))⟩

theorem ok23 : okFn Tryd.prog 2 Tryd.f23 a23 = true := by kernel_rfl

/-- phasor/tableau.Project -/
def a24 : AFn := ⟨3, 52, [.cell 6 (some 3), .t 7],
    .seq (.reg false [
      ⟨(some 3), none, .box true 24 (.t 0), 0⟩,
      ⟨(some 6), none, .alloc true 24 [.i .i64 (0), .sl none 0 (.ex 0), .sl none 0 (.ex 0)], 0⟩,
      ⟨(some 7), none, .mv (.k (.i .i64 (0))), 0⟩])
    (.seq (.reg false [
      ⟨(some 11), none, .load (some 3) (.t 3), 0⟩,
      ⟨(some 12), none, .mv (.t 1), 0⟩,
      ⟨(some 13), none, .call 0 (.k (.fn (.func 23) [] [])) [.t 11, .t 12], 0⟩,
      ⟨(some 10), none, .mv (.t 13), 0⟩,
      ⟨(some 14), none, .ext (.t 10) 0, 0⟩,
      ⟨(some 15), none, .ext (.t 10) 1, 0⟩,
      ⟨(some 8), none, .mv (.t 14), 0⟩,
      ⟨(some 9), none, .mv (.t 15), 0⟩])
    (.seq (.blk 0 (.seq (.reg false [
      ⟨(some 17), none, .mv (.t 9), 0⟩,
      ⟨(some 18), none, .bin .neq (.t 17) (.k (.i .i64 (0))), 0⟩,
      ⟨(some 16), none, .mv (.t 18), 0⟩])
    (.ite (.t 16) (.seq (.reg false [
      ⟨(some 19), none, .build [.i .i64 (0), .sl none 0 (.ex 0), .sl none 0 (.ex 0)] [], 0⟩,
      ⟨(some 20), none, .mv (.t 9), 0⟩,
      ⟨none, none, .store 3 (.t 6) (.t 19), 0⟩,
      ⟨(some 7), none, .mv (.t 20), 0⟩])
    (.cut [6, 7] [6] .ret)) (.seq (.reg false [
      ⟨(some 22), none, .mv (.t 2), 0⟩,
      ⟨(some 23), none, .bin .neq (.t 22) (.k (.i .i64 (0))), 0⟩,
      ⟨(some 24), none, .mv (.t 23), 0⟩,
      ⟨(some 25), (some (24, true)), .mv (.t 2), 0⟩,
      ⟨(some 26), (some (24, true)), .bin .neq (.t 25) (.k (.i .i64 (1))), 0⟩,
      ⟨(some 27), none, .pick (.t 24) (.t 26) (.k (.b false)), 0⟩,
      ⟨(some 21), none, .mv (.t 27), 0⟩])
    (.ite (.t 21) (.seq (.reg false [
      ⟨(some 28), none, .build [.i .i64 (0), .sl none 0 (.ex 0), .sl none 0 (.ex 0)] [], 0⟩,
      ⟨none, none, .store 3 (.t 6) (.t 28), 0⟩,
      ⟨(some 7), none, .mv (.k (.i .i64 (2))), 0⟩])
    (.cut [6, 7] [6] .ret)) (.seq (.reg false [
      ⟨(some 30), none, .mv (.t 8), 0⟩,
      ⟨(some 31), none, .mv (.t 2), 0⟩,
      ⟨(some 32), none, .bin .sub (.k (.i .i64 (1))) (.t 31), 0⟩,
      ⟨(some 33), none, .bin .eql (.t 30) (.t 32), 0⟩,
      ⟨(some 29), none, .mv (.t 33), 0⟩])
    (.ite (.t 29) (.seq (.reg false [
      ⟨(some 34), none, .build [.i .i64 (0), .sl none 0 (.ex 0), .sl none 0 (.ex 0)] [], 0⟩,
      ⟨none, none, .store 3 (.t 6) (.t 34), 0⟩,
      ⟨(some 7), none, .mv (.k (.i .i64 (142))), 0⟩])
    (.cut [6, 7] [6] .ret)) (.skip))))))))
    (.cut [1, 2, 3, 6, 8] [3, 6] (.seq (.seq (.reg false [
      ⟨(some 35), none, .mv (.t 8), 0⟩,
      ⟨(some 36), none, .mv (.t 2), 0⟩,
      ⟨(some 37), none, .bin .eql (.t 35) (.t 36), 0⟩])
    (.ite (.t 37) (.seq (.reg false [
      ⟨(some 38), none, .load (some 3) (.t 3), 0⟩,
      ⟨(some 39), none, .call 0 (.k (.fn (.func 49) [] [])) [.t 38], 0⟩,
      ⟨none, none, .store 3 (.t 6) (.t 39), 0⟩,
      ⟨(some 7), none, .mv (.k (.i .i64 (0))), 0⟩])
    (.cut [6, 7] [6] .ret)) (.skip)))
    (.cut [1, 2, 3, 6] [3, 6] (.seq (.reg true [
      ⟨(some 40), none, .load (some 3) (.t 3), 0⟩,
      ⟨(some 41), none, .load (some 3) (.t 3), 0⟩,
      ⟨(some 42), none, .mv (.t 1), 0⟩,
      ⟨(some 43), none, .call 0 (.k (.fn (.func 57) [] [])) [.t 41, .t 42], 6⟩,
      ⟨(some 44), none, .fadr 0 (.t 3), 0⟩,
      ⟨(some 45), none, .load none (.t 44), 16⟩,
      ⟨(some 46), none, .mv (.t 1), 0⟩,
      ⟨(some 47), none, .bin .shl (.k (.i .u64 (1))) (.t 46), 64⟩,
      ⟨(some 48), none, .mv (.t 2), 0⟩,
      ⟨(some 49), none, .bin .mul (.k (.i .i64 (2))) (.t 48), 256⟩,
      ⟨(some 50), none, .build [.i .i64 (0), .i .u64 (0), .i .u64 (0), .i .i64 (0)] [(0, 1, .t 45), (2, 1, .t 47), (3, 1, .t 49)], 1008⟩,
      ⟨(some 51), none, .call 0 (.k (.fn (.func 59) [] [])) [.t 40, .t 43, .t 50], 2047⟩,
      ⟨none, none, .store 3 (.t 6) (.t 51), 4095⟩,
      ⟨(some 7), none, .mv (.k (.i .i64 (0))), 8191⟩])
    (.cut [6, 7] [6] .ret)))))))⟩

theorem ok24 : okFn Tryd.prog 2 Tryd.f24 a24 = true := by kernel_rfl

/-- phasor/tableau.Member -/
def a25 : AFn := ⟨2, 45, [.t 4, .t 5],
    .seq (.reg false [
      ⟨(some 2), none, .box true 24 (.t 0), 0⟩,
      ⟨(some 3), none, .box true 39 (.t 1), 0⟩,
      ⟨(some 4), none, .mv (.k (.i .i64 (0))), 0⟩,
      ⟨(some 5), none, .mv (.k (.i .i64 (0))), 0⟩])
    (.seq (.seq (.reg false [
      ⟨(some 8), none, .load (some 3) (.t 2), 0⟩,
      ⟨(some 9), none, .call 0 (.k (.fn (.func 14) [] [])) [.t 8], 0⟩,
      ⟨(some 6), none, .mv (.t 9), 0⟩])
    (.seq (.reg false [
      ⟨(some 10), none, .mv (.t 6), 0⟩,
      ⟨(some 11), none, .bin .neq (.t 10) (.k (.i .i64 (0))), 0⟩])
    (.ite (.t 11) (.seq (.reg false [
      ⟨(some 12), none, .mv (.t 6), 0⟩,
      ⟨(some 4), none, .mv (.k (.i .i64 (0))), 0⟩,
      ⟨(some 5), none, .mv (.t 12), 0⟩])
    (.cut [4, 5] [] .ret)) (.skip))))
    (.cut [2, 3] [2, 3] (.seq (.seq (.reg false [
      ⟨(some 13), none, .fadr 0 (.t 3), 0⟩,
      ⟨(some 14), none, .load none (.t 13), 0⟩,
      ⟨(some 15), none, .fadr 0 (.t 2), 0⟩,
      ⟨(some 16), none, .load none (.t 15), 0⟩,
      ⟨(some 17), none, .bin .neq (.t 14) (.t 16), 0⟩,
      ⟨(some 18), none, .mv (.t 17), 0⟩,
      ⟨(some 19), (some (18, false)), .load (some 4) (.t 3), 0⟩,
      ⟨(some 20), (some (18, false)), .call 0 (.k (.fn (.func 39) [] [])) [.t 19], 0⟩,
      ⟨(some 21), (some (18, false)), .un .not (.t 20), 0⟩,
      ⟨(some 22), none, .pick (.t 18) (.k (.b true)) (.t 21), 0⟩])
    (.ite (.t 22) (.seq (.reg false [
      ⟨(some 4), none, .mv (.k (.i .i64 (0))), 0⟩,
      ⟨(some 5), none, .mv (.k (.i .i64 (2))), 0⟩])
    (.cut [4, 5] [] .ret)) (.skip)))
    (.cut [2, 3] [2, 3] (.seq (.reg false [
      ⟨(some 23), none, .load (some 3) (.t 2), 0⟩,
      ⟨(some 24), none, .load (some 4) (.t 3), 0⟩,
      ⟨(some 25), none, .call 0 (.k (.fn (.func 58) [] [])) [.t 23, .t 24], 0⟩,
      ⟨(some 7), none, .alloc true 39 [.i .i64 (0), .i .u64 (0), .i .u64 (0), .i .i64 (0)], 0⟩,
      ⟨none, none, .store 4 (.t 7) (.t 25), 0⟩])
    (.seq (.blk 0 (.seq (.reg false [
      ⟨(some 27), none, .fadr 1 (.t 7), 0⟩,
      ⟨(some 28), none, .load none (.t 27), 0⟩,
      ⟨(some 29), none, .fadr 1 (.t 3), 0⟩,
      ⟨(some 30), none, .load none (.t 29), 0⟩,
      ⟨(some 31), none, .bin .neq (.t 28) (.t 30), 0⟩,
      ⟨(some 32), none, .mv (.t 31), 0⟩,
      ⟨(some 33), (some (32, false)), .fadr 2 (.t 7), 0⟩,
      ⟨(some 34), (some (32, false)), .load none (.t 33), 0⟩,
      ⟨(some 35), (some (32, false)), .fadr 2 (.t 3), 0⟩,
      ⟨(some 36), (some (32, false)), .load none (.t 35), 0⟩,
      ⟨(some 37), (some (32, false)), .bin .neq (.t 34) (.t 36), 0⟩,
      ⟨(some 38), none, .pick (.t 32) (.k (.b true)) (.t 37), 0⟩,
      ⟨(some 26), none, .mv (.t 38), 0⟩])
    (.ite (.t 26) (.seq (.reg false [
      ⟨(some 4), none, .mv (.k (.i .i64 (0))), 0⟩,
      ⟨(some 5), none, .mv (.k (.i .i64 (0))), 0⟩])
    (.cut [4, 5] [] .ret)) (.seq (.reg false [
      ⟨(some 40), none, .fadr 3 (.t 7), 0⟩,
      ⟨(some 41), none, .load none (.t 40), 0⟩,
      ⟨(some 42), none, .fadr 3 (.t 3), 0⟩,
      ⟨(some 43), none, .load none (.t 42), 0⟩,
      ⟨(some 44), none, .bin .eql (.t 41) (.t 43), 0⟩,
      ⟨(some 39), none, .mv (.t 44), 0⟩])
    (.ite (.t 39) (.seq (.reg false [
      ⟨(some 4), none, .mv (.k (.i .i64 (1))), 0⟩,
      ⟨(some 5), none, .mv (.k (.i .i64 (0))), 0⟩])
    (.cut [4, 5] [] .ret)) (.skip))))))
    (.cut [] [] (.seq (.reg false [
      ⟨(some 4), none, .mv (.k (.i .i64 (-1))), 0⟩,
      ⟨(some 5), none, .mv (.k (.i .i64 (0))), 0⟩])
    (.cut [4, 5] [] .ret)))))))))⟩

theorem ok25 : okFn Tryd.prog 2 Tryd.f25 a25 = true := by kernel_rfl

/-- phasor/pauli.Hermitian -/
def a39 : AFn := ⟨1, 11, [.t 2],
    .seq (.reg false [
      ⟨(some 1), none, .box true 39 (.t 0), 0⟩,
      ⟨(some 2), none, .mv (.k (.b false)), 0⟩])
    (.seq (.reg false [
      ⟨(some 3), none, .load (some 4) (.t 1), 0⟩,
      ⟨(some 4), none, .call 0 (.k (.fn (.func 76) [] [])) [.t 3], 0⟩,
      ⟨(some 5), none, .mv (.t 4), 0⟩,
      ⟨(some 6), (some (5, true)), .fadr 3 (.t 1), 0⟩,
      ⟨(some 7), (some (5, true)), .load none (.t 6), 0⟩,
      ⟨(some 8), (some (5, true)), .bin .rem (.t 7) (.k (.i .i64 (2))), 0⟩,
      ⟨(some 9), (some (5, true)), .bin .eql (.t 8) (.k (.i .i64 (0))), 0⟩,
      ⟨(some 10), none, .pick (.t 5) (.t 9) (.k (.b false)), 0⟩,
      ⟨(some 2), none, .mv (.t 10), 0⟩])
    (.cut [2] [] .ret))⟩

theorem ok39 : okFn Tryd.prog 2 Tryd.f39 a39 = true := by kernel_rfl

/-- phasor/tableau.commute -/
def a40 : AFn := ⟨2, 20, [.t 4],
    .seq (.reg false [
      ⟨(some 2), none, .box true 39 (.t 0), 0⟩,
      ⟨(some 3), none, .box true 39 (.t 1), 0⟩,
      ⟨(some 4), none, .mv (.k (.b false)), 0⟩])
    (.seq (.reg true [
      ⟨(some 5), none, .fadr 1 (.t 2), 0⟩,
      ⟨(some 6), none, .load none (.t 5), 1⟩,
      ⟨(some 7), none, .fadr 2 (.t 3), 0⟩,
      ⟨(some 8), none, .load none (.t 7), 4⟩,
      ⟨(some 9), none, .bin .and (.t 6) (.t 8), 15⟩,
      ⟨(some 10), none, .call 0 (.k (.fn (.func 77) [] [])) [.t 9], 31⟩,
      ⟨(some 11), none, .fadr 2 (.t 2), 0⟩,
      ⟨(some 12), none, .load none (.t 11), 64⟩,
      ⟨(some 13), none, .fadr 1 (.t 3), 0⟩,
      ⟨(some 14), none, .load none (.t 13), 256⟩,
      ⟨(some 15), none, .bin .and (.t 12) (.t 14), 960⟩,
      ⟨(some 16), none, .call 0 (.k (.fn (.func 77) [] [])) [.t 15], 2047⟩,
      ⟨(some 17), none, .bin .add (.t 10) (.t 16), 4095⟩,
      ⟨(some 18), none, .bin .rem (.t 17) (.k (.i .i64 (2))), 8191⟩,
      ⟨(some 19), none, .bin .eql (.t 18) (.k (.i .i64 (0))), 16383⟩,
      ⟨(some 4), none, .mv (.t 19), 32767⟩])
    (.cut [4] [] .ret))⟩

theorem ok40 : okFn Tryd.prog 2 Tryd.f40 a40 = true := by kernel_rfl

/-- phasor/tableau.Canon -/
def a42 : AFn := ⟨1, 15, [.t 2, .t 3],
    .seq (.reg false [
      ⟨(some 1), none, .box true 24 (.t 0), 0⟩,
      ⟨(some 2), none, .mv (.k (.sl none 0 (.ex 0))), 0⟩,
      ⟨(some 3), none, .mv (.k (.i .i64 (0))), 0⟩])
    (.seq (.seq (.reg false [
      ⟨(some 5), none, .load (some 3) (.t 1), 0⟩,
      ⟨(some 6), none, .call 0 (.k (.fn (.func 14) [] [])) [.t 5], 0⟩,
      ⟨(some 4), none, .mv (.t 6), 0⟩])
    (.seq (.reg false [
      ⟨(some 7), none, .mv (.t 4), 0⟩,
      ⟨(some 8), none, .bin .neq (.t 7) (.k (.i .i64 (0))), 0⟩])
    (.ite (.t 8) (.seq (.reg false [
      ⟨(some 9), none, .mv (.t 4), 0⟩,
      ⟨(some 2), none, .mv (.k (.sl none 0 (.ex 0))), 0⟩,
      ⟨(some 3), none, .mv (.t 9), 0⟩])
    (.cutg 2 [2, 3] [] .ret)) (.skip))))
    (.cutg 2 [1] [1] (.seq (.reg false [
      ⟨(some 10), none, .fadr 1 (.t 1), 0⟩,
      ⟨(some 11), none, .load none (.t 10), 0⟩,
      ⟨(some 12), none, .fadr 0 (.t 1), 0⟩,
      ⟨(some 13), none, .load none (.t 12), 0⟩,
      ⟨(some 14), none, .call 1 (.k (.fn (.func 55) [] [])) [.t 11, .t 13], 0⟩,
      ⟨(some 2), none, .mv (.t 14), 0⟩,
      ⟨(some 3), none, .mv (.k (.i .i64 (0))), 0⟩])
    (.cutg 2 [2, 3] [] .ret))))⟩

theorem ok42 : okFn Tryd.prog 2 Tryd.f42 a42 = true := by kernel_rfl

/-- phasor/tableau.Settle -/
def a43 : AFn := ⟨3, 31, [.cell 6 (some 3), .t 7],
    .seq (.reg false [
      ⟨(some 3), none, .box true 24 (.t 0), 0⟩,
      ⟨(some 6), none, .alloc true 24 [.i .i64 (0), .sl none 0 (.ex 0), .sl none 0 (.ex 0)], 0⟩,
      ⟨(some 7), none, .mv (.k (.i .i64 (0))), 0⟩])
    (.seq (.reg false [
      ⟨(some 11), none, .load (some 3) (.t 3), 0⟩,
      ⟨(some 12), none, .mv (.t 1), 0⟩,
      ⟨(some 13), none, .mv (.t 2), 0⟩,
      ⟨(some 14), none, .call 0 (.k (.fn (.func 24) [] [])) [.t 11, .t 12, .t 13], 0⟩,
      ⟨(some 10), none, .mv (.t 14), 0⟩,
      ⟨(some 15), none, .ext (.t 10) 0, 0⟩,
      ⟨(some 16), none, .ext (.t 10) 1, 0⟩,
      ⟨(some 8), none, .alloc true 24 [.i .i64 (0), .sl none 0 (.ex 0), .sl none 0 (.ex 0)], 0⟩,
      ⟨none, none, .store 3 (.t 8) (.t 15), 0⟩,
      ⟨(some 9), none, .mv (.t 16), 0⟩])
    (.seq (.seq (.reg false [
      ⟨(some 17), none, .mv (.t 9), 0⟩,
      ⟨(some 18), none, .bin .neq (.t 17) (.k (.i .i64 (0))), 0⟩,
      ⟨(some 19), none, .mv (.t 18), 0⟩,
      ⟨(some 20), (some (19, false)), .mv (.t 2), 0⟩,
      ⟨(some 21), (some (19, false)), .bin .eql (.t 20) (.k (.i .i64 (0))), 0⟩,
      ⟨(some 22), none, .pick (.t 19) (.k (.b true)) (.t 21), 0⟩])
    (.ite (.t 22) (.seq (.reg false [
      ⟨(some 23), none, .load (some 3) (.t 8), 0⟩,
      ⟨(some 24), none, .mv (.t 9), 0⟩,
      ⟨none, none, .store 3 (.t 6) (.t 23), 0⟩,
      ⟨(some 7), none, .mv (.t 24), 0⟩])
    (.cutg 2 [6, 7] [6] .ret)) (.skip)))
    (.cutg 2 [1, 6, 8] [6, 8] (.seq (.reg false [
      ⟨(some 25), none, .load (some 3) (.t 8), 0⟩,
      ⟨(some 26), none, .mv (.t 1), 0⟩,
      ⟨(some 27), none, .bslice 3 1 1 [.i .i64 (0)] [(0, 1, .t 26)], 0⟩,
      ⟨(some 28), none, .call 0 (.k (.fn (.func 20) [] [])) [.t 25, .k (.i .i64 (2)), .t 27], 0⟩,
      ⟨(some 29), none, .ext (.t 28) 0, 0⟩,
      ⟨(some 30), none, .ext (.t 28) 1, 0⟩,
      ⟨none, none, .store 3 (.t 6) (.t 29), 0⟩,
      ⟨(some 7), none, .mv (.t 30), 0⟩])
    (.cutg 2 [6, 7] [6] .ret)))))⟩

theorem ok43 : okFn Tryd.prog 2 Tryd.f43 a43 = true := by kernel_rfl

/-- phasor/pauli.pair -/
def a44 : AFn := ⟨2, 18, [.t 4],
    .seq (.reg false [
      ⟨(some 2), none, .box true 39 (.t 0), 0⟩,
      ⟨(some 3), none, .box true 39 (.t 1), 0⟩,
      ⟨(some 4), none, .mv (.k (.b false)), 0⟩])
    (.seq (.reg false [
      ⟨(some 5), none, .load (some 4) (.t 2), 0⟩,
      ⟨(some 6), none, .call 0 (.k (.fn (.func 76) [] [])) [.t 5], 0⟩,
      ⟨(some 7), none, .mv (.t 6), 0⟩,
      ⟨(some 8), (some (7, true)), .load (some 4) (.t 3), 0⟩,
      ⟨(some 9), (some (7, true)), .call 0 (.k (.fn (.func 76) [] [])) [.t 8], 0⟩,
      ⟨(some 10), none, .pick (.t 7) (.t 9) (.k (.b false)), 0⟩,
      ⟨(some 11), none, .mv (.t 10), 0⟩,
      ⟨(some 12), (some (11, true)), .fadr 0 (.t 2), 0⟩,
      ⟨(some 13), (some (11, true)), .load none (.t 12), 0⟩,
      ⟨(some 14), (some (11, true)), .fadr 0 (.t 3), 0⟩,
      ⟨(some 15), (some (11, true)), .load none (.t 14), 0⟩,
      ⟨(some 16), (some (11, true)), .bin .eql (.t 13) (.t 15), 0⟩,
      ⟨(some 17), none, .pick (.t 11) (.t 16) (.k (.b false)), 0⟩,
      ⟨(some 4), none, .mv (.t 17), 0⟩])
    (.cut [4] [] .ret))⟩

theorem ok44 : okFn Tryd.prog 2 Tryd.f44 a44 = true := by kernel_rfl

def a45L0 : AC :=
    .cut [2, 3, 4, 5, 6] [2, 3, 4] (.seq (.seq (.reg false [
      ⟨(some 24), none, .mv (.t 6), 0⟩,
      ⟨(some 25), none, .bin .neq (.t 24) (.k (.i .u64 (0))), 0⟩])
    (.ite (.t 25) (.skip) (.cut [2, 3, 4, 5] [2, 3, 4] (.exit 0))))
    (.cut [2, 3, 4, 5, 6] [2, 3, 4] (.seq (.blk 1 (.seq (.reg false [
      ⟨(some 30), none, .mv (.t 6), 0⟩,
      ⟨(some 31), none, .call 0 (.k (.fn (.func 78) [] [])) [.t 30], 0⟩,
      ⟨(some 7), none, .mv (.t 31), 0⟩])
    (.seq (.reg true [
      ⟨(some 32), none, .load (some 4) (.t 3), 0⟩,
      ⟨(some 33), none, .mv (.t 7), 0⟩,
      ⟨(some 34), none, .call 0 (.k (.fn (.func 79) [] [])) [.t 32, .t 33], 3⟩,
      ⟨(some 35), none, .load (some 4) (.t 2), 0⟩,
      ⟨(some 36), none, .mv (.t 7), 0⟩,
      ⟨(some 37), none, .call 0 (.k (.fn (.func 79) [] [])) [.t 35, .t 36], 31⟩,
      ⟨(some 38), none, .bin .sub (.t 34) (.t 37), 63⟩,
      ⟨(some 39), none, .bin .add (.t 38) (.k (.i .i64 (3))), 127⟩,
      ⟨(some 40), none, .bin .rem (.t 39) (.k (.i .i64 (3))), 255⟩])
    (.blk 2 (.seq (.reg false [
      ⟨(some 42), none, .bin .eql (.t 40) (.k (.i .i64 (1))), 0⟩,
      ⟨(some 41), none, .mv (.t 42), 0⟩])
    (.ite (.t 41) (.reg false [
      ⟨(some 43), none, .mv (.t 5), 0⟩,
      ⟨(some 44), none, .bin .add (.t 43) (.k (.i .i64 (1))), 0⟩,
      ⟨(some 5), none, .mv (.t 44), 0⟩]) (.seq (.reg false [
      ⟨(some 46), none, .bin .eql (.t 40) (.k (.i .i64 (2))), 0⟩,
      ⟨(some 45), none, .mv (.t 46), 0⟩])
    (.ite (.t 45) (.reg false [
      ⟨(some 47), none, .mv (.t 5), 0⟩,
      ⟨(some 48), none, .bin .add (.t 47) (.k (.i .i64 (3))), 0⟩,
      ⟨(some 5), none, .mv (.t 48), 0⟩]) (.skip)))))))))
    (.cut [2, 3, 4, 5, 6] [2, 3, 4] (.reg false [
      ⟨(some 26), none, .mv (.t 6), 0⟩,
      ⟨(some 27), none, .mv (.t 6), 0⟩,
      ⟨(some 28), none, .bin .sub (.t 27) (.k (.i .u64 (1))), 0⟩,
      ⟨(some 29), none, .bin .and (.t 26) (.t 28), 0⟩,
      ⟨(some 6), none, .mv (.t 29), 0⟩])))))
/-- phasor/pauli.times -/
def a45 : AFn := ⟨2, 64, [.cell 4 (some 4)],
    .seq (.reg false [
      ⟨(some 2), none, .box true 39 (.t 0), 0⟩,
      ⟨(some 3), none, .box true 39 (.t 1), 0⟩,
      ⟨(some 4), none, .alloc true 39 [.i .i64 (0), .i .u64 (0), .i .u64 (0), .i .i64 (0)], 0⟩])
    (.seq (.reg false [
      ⟨(some 8), none, .fadr 3 (.t 2), 0⟩,
      ⟨(some 9), none, .load none (.t 8), 0⟩,
      ⟨(some 10), none, .fadr 3 (.t 3), 0⟩,
      ⟨(some 11), none, .load none (.t 10), 0⟩,
      ⟨(some 12), none, .bin .add (.t 9) (.t 11), 0⟩,
      ⟨(some 5), none, .mv (.t 12), 0⟩])
    (.seq (.seq (.reg false [
      ⟨(some 13), none, .fadr 1 (.t 2), 0⟩,
      ⟨(some 14), none, .load none (.t 13), 0⟩,
      ⟨(some 15), none, .fadr 2 (.t 2), 0⟩,
      ⟨(some 16), none, .load none (.t 15), 0⟩,
      ⟨(some 17), none, .bin .or (.t 14) (.t 16), 0⟩,
      ⟨(some 18), none, .fadr 1 (.t 3), 0⟩,
      ⟨(some 19), none, .load none (.t 18), 0⟩,
      ⟨(some 20), none, .fadr 2 (.t 3), 0⟩,
      ⟨(some 21), none, .load none (.t 20), 0⟩,
      ⟨(some 22), none, .bin .or (.t 19) (.t 21), 0⟩,
      ⟨(some 23), none, .bin .and (.t 17) (.t 22), 0⟩,
      ⟨(some 6), none, .mv (.t 23), 0⟩])
    (.blk 0 (.loop a45L0)))
    (.cut [2, 3, 4, 5] [2, 3, 4] (.seq (.reg false [
      ⟨(some 49), none, .fadr 0 (.t 2), 0⟩,
      ⟨(some 50), none, .load none (.t 49), 0⟩,
      ⟨(some 51), none, .fadr 1 (.t 2), 0⟩,
      ⟨(some 52), none, .load none (.t 51), 0⟩,
      ⟨(some 53), none, .fadr 1 (.t 3), 0⟩,
      ⟨(some 54), none, .load none (.t 53), 0⟩,
      ⟨(some 55), none, .bin .xor (.t 52) (.t 54), 0⟩,
      ⟨(some 56), none, .fadr 2 (.t 2), 0⟩,
      ⟨(some 57), none, .load none (.t 56), 0⟩,
      ⟨(some 58), none, .fadr 2 (.t 3), 0⟩,
      ⟨(some 59), none, .load none (.t 58), 0⟩,
      ⟨(some 60), none, .bin .xor (.t 57) (.t 59), 0⟩,
      ⟨(some 61), none, .mv (.t 5), 0⟩,
      ⟨(some 62), none, .bin .rem (.t 61) (.k (.i .i64 (4))), 0⟩,
      ⟨(some 63), none, .build [.i .i64 (0), .i .u64 (0), .i .u64 (0), .i .i64 (0)] [(0, 1, .t 50), (1, 1, .t 55), (2, 1, .t 60), (3, 1, .t 62)], 0⟩,
      ⟨none, none, .store 4 (.t 4) (.t 63), 0⟩])
    (.cut [4] [4] .ret)))))⟩

theorem ok45 : okFn Tryd.prog 2 Tryd.f45 a45 = true := by kernel_rfl

def a46L0 : AC :=
    .cut [0, 1, 12, 13] [] (.seq (.reg false [
      ⟨(some 14), none, .bin .lss (.t 13) (.t 12), 0⟩])
    (.seq (.ite (.t 14) (.skip) (.cut [] [] (.exit 0)))
    (.cut [0, 1, 12, 13] [] (.seq (.blk 1 (.seq (.reg false [
      ⟨(some 15), none, .mv (.t 13), 0⟩,
      ⟨(some 5), none, .mv (.t 15), 0⟩])
    (.seq (.reg true [
      ⟨(some 16), none, .mv (.t 0), 0⟩,
      ⟨(some 17), none, .mv (.t 5), 0⟩,
      ⟨(some 18), none, .iadr 4 (.t 16) (.t 17), 3⟩,
      ⟨(some 19), none, .load (some 4) (.t 18), 7⟩,
      ⟨(some 20), none, .mv (.t 1), 0⟩,
      ⟨(some 21), none, .mv (.t 5), 0⟩,
      ⟨(some 22), none, .iadr 4 (.t 20) (.t 21), 48⟩,
      ⟨(some 23), none, .load (some 4) (.t 22), 112⟩,
      ⟨(some 24), none, .eqs true [false, false, false, false] (.t 19) (.t 23), 255⟩])
    (.ite (.t 24) (.seq (.reg false [
      ⟨(some 4), none, .mv (.k (.b false)), 0⟩])
    (.cut [4] [] .ret)) (.skip)))))
    (.cut [0, 1, 12, 13] [] (.reg false [
      ⟨(some 25), none, .bin .add (.t 13) (.k (.i .i64 (1))), 0⟩,
      ⟨(some 13), none, .mv (.t 25), 0⟩]))))))
/-- slices.Equal[[]phasor/api.Pauli,phasor/api.Pauli] -/
def a46 : AFn := ⟨2, 26, [.t 4],
    .seq (.reg false [
      ⟨(some 4), none, .mv (.k (.b false)), 0⟩])
    (.seq (.seq (.reg false [
      ⟨(some 6), none, .mv (.t 0), 0⟩,
      ⟨(some 7), none, .len false (.t 6), 0⟩,
      ⟨(some 8), none, .mv (.t 1), 0⟩,
      ⟨(some 9), none, .len false (.t 8), 0⟩,
      ⟨(some 10), none, .bin .neq (.t 7) (.t 9), 0⟩])
    (.ite (.t 10) (.seq (.reg false [
      ⟨(some 4), none, .mv (.k (.b false)), 0⟩])
    (.cut [4] [] .ret)) (.skip)))
    (.cut [0, 1] [] (.seq (.seq (.reg false [
      ⟨(some 11), none, .mv (.t 0), 0⟩,
      ⟨(some 12), none, .len false (.t 11), 0⟩,
      ⟨(some 13), none, .mv (.k (.i .i64 (0))), 0⟩])
    (.blk 0 (.loop a46L0)))
    (.cut [] [] (.seq (.reg false [
      ⟨(some 4), none, .mv (.k (.b true)), 0⟩])
    (.cut [4] [] .ret))))))⟩

theorem ok46 : okFn Tryd.prog 2 Tryd.f46 a46 = true := by kernel_rfl

def a47L0 : AC :=
    .cut [1, 2, 17, 18, 19] [] (.seq (.reg false [
      ⟨(some 20), none, .bin .lss (.t 19) (.t 18), 0⟩])
    (.seq (.ite (.t 20) (.skip) (.cut [] [] (.exit 0)))
    (.cut [1, 2, 17, 18, 19] [] (.seq (.blk 1 (.seq (.reg false [
      ⟨(some 21), none, .mv (.t 19), 0⟩,
      ⟨(some 22), none, .iadr 1 (.t 17) (.t 19), 0⟩,
      ⟨(some 23), none, .load none (.t 22), 0⟩,
      ⟨(some 7), none, .mv (.t 21), 0⟩,
      ⟨(some 8), none, .mv (.t 23), 0⟩])
    (.seq (.reg false [
      ⟨(some 24), none, .mv (.t 8), 0⟩,
      ⟨(some 25), none, .bin .lss (.t 24) (.k (.i .i64 (0))), 0⟩,
      ⟨(some 26), none, .mv (.t 25), 0⟩,
      ⟨(some 27), (some (26, false)), .mv (.t 8), 0⟩,
      ⟨(some 28), (some (26, false)), .mv (.t 2), 0⟩,
      ⟨(some 29), (some (26, false)), .bin .geq (.t 27) (.t 28), 0⟩,
      ⟨(some 30), none, .pick (.t 26) (.k (.b true)) (.t 29), 0⟩,
      ⟨(some 31), none, .mv (.t 30), 0⟩,
      ⟨(some 32), (some (31, false)), .mv (.t 1), 0⟩,
      ⟨(some 33), (some (31, false)), .mv (.t 7), 0⟩,
      ⟨(some 34), (some (31, false)), .slc 1 (.t 32) none (some (.t 33)) none, 0⟩,
      ⟨(some 35), (some (31, false)), .mv (.t 8), 0⟩,
      ⟨(some 36), (some (31, false)), .call 0 (.k (.fn (.func 81) [] [])) [.t 34, .t 35], 0⟩,
      ⟨(some 37), none, .pick (.t 31) (.k (.b true)) (.t 36), 0⟩])
    (.ite (.t 37) (.seq (.reg false [
      ⟨(some 6), none, .mv (.k (.i .i64 (61))), 0⟩])
    (.cut [6] [] .ret)) (.skip)))))
    (.cut [1, 2, 17, 18, 19] [] (.reg false [
      ⟨(some 38), none, .bin .add (.t 19) (.k (.i .i64 (1))), 0⟩,
      ⟨(some 19), none, .mv (.t 38), 0⟩]))))))
/-- phasor/gate.Check -/
def a47 : AFn := ⟨3, 39, [.t 6],
    .seq (.reg false [
      ⟨(some 6), none, .mv (.k (.i .i64 (0))), 0⟩])
    (.seq (.seq (.reg false [
      ⟨(some 9), none, .mv (.t 0), 0⟩,
      ⟨(some 10), none, .call 0 (.k (.fn (.func 80) [] [])) [.t 9], 0⟩,
      ⟨(some 11), none, .bin .eql (.t 10) (.k (.i .i64 (0))), 0⟩])
    (.ite (.t 11) (.seq (.reg false [
      ⟨(some 6), none, .mv (.k (.i .i64 (60))), 0⟩])
    (.cut [6] [] .ret)) (.skip)))
    (.cut [0, 1, 2] [] (.seq (.seq (.reg false [
      ⟨(some 12), none, .mv (.t 1), 0⟩,
      ⟨(some 13), none, .len false (.t 12), 0⟩,
      ⟨(some 14), none, .mv (.t 0), 0⟩,
      ⟨(some 15), none, .call 0 (.k (.fn (.func 80) [] [])) [.t 14], 0⟩,
      ⟨(some 16), none, .bin .neq (.t 13) (.t 15), 0⟩])
    (.ite (.t 16) (.seq (.reg false [
      ⟨(some 6), none, .mv (.k (.i .i64 (61))), 0⟩])
    (.cut [6] [] .ret)) (.skip)))
    (.cut [1, 2] [] (.seq (.seq (.reg false [
      ⟨(some 17), none, .mv (.t 1), 0⟩,
      ⟨(some 18), none, .len false (.t 17), 0⟩,
      ⟨(some 19), none, .mv (.k (.i .i64 (0))), 0⟩])
    (.blk 0 (.loop a47L0)))
    (.cut [] [] (.seq (.reg false [
      ⟨(some 6), none, .mv (.k (.i .i64 (0))), 0⟩])
    (.cut [6] [] .ret))))))))⟩

theorem ok47 : okFn Tryd.prog 2 Tryd.f47 a47 = true := by kernel_rfl

/-- phasor/gate.Clifford -/
def a48 : AFn := ⟨1, 9, [.t 2],
    .seq (.reg false [
      ⟨(some 2), none, .mv (.k (.b false)), 0⟩])
    (.seq (.reg false [
      ⟨(some 3), none, .mv (.t 0), 0⟩,
      ⟨(some 4), none, .bin .geq (.t 3) (.k (.i .i64 (1))), 0⟩,
      ⟨(some 5), none, .mv (.t 4), 0⟩,
      ⟨(some 6), (some (5, true)), .mv (.t 0), 0⟩,
      ⟨(some 7), (some (5, true)), .bin .leq (.t 6) (.k (.i .i64 (17))), 0⟩,
      ⟨(some 8), none, .pick (.t 5) (.t 7) (.k (.b false)), 0⟩,
      ⟨(some 2), none, .mv (.t 8), 0⟩])
    (.cut [2] [] .ret))⟩

theorem ok48 : okFn Tryd.prog 2 Tryd.f48 a48 = true := by kernel_rfl

/-- phasor/tableau.copied -/
def a49 : AFn := ⟨1, 12, [.cell 2 (some 3)],
    .seq (.reg false [
      ⟨(some 1), none, .box true 24 (.t 0), 0⟩,
      ⟨(some 2), none, .alloc true 24 [.i .i64 (0), .sl none 0 (.ex 0), .sl none 0 (.ex 0)], 0⟩])
    (.seq (.reg true [
      ⟨(some 3), none, .fadr 0 (.t 1), 0⟩,
      ⟨(some 4), none, .load none (.t 3), 1⟩,
      ⟨(some 5), none, .fadr 1 (.t 1), 0⟩,
      ⟨(some 6), none, .load none (.t 5), 4⟩,
      ⟨(some 7), none, .call 1 (.k (.fn (.func 54) [] [])) [.t 6], 12⟩,
      ⟨(some 8), none, .fadr 2 (.t 1), 0⟩,
      ⟨(some 9), none, .load none (.t 8), 32⟩,
      ⟨(some 10), none, .call 1 (.k (.fn (.func 54) [] [])) [.t 9], 124⟩,
      ⟨(some 11), none, .build [.i .i64 (0), .sl none 0 (.ex 0), .sl none 0 (.ex 0)] [(0, 1, .t 4), (1, 1, .t 7), (2, 1, .t 10)], 255⟩,
      ⟨none, none, .store 3 (.t 2) (.t 11), 511⟩])
    (.cutg 2 [2] [2] .ret))⟩

theorem ok49 : okFn Tryd.prog 2 Tryd.f49 a49 = true := by kernel_rfl

def a50L0 : AC :=
    .cut [0, 1, 2, 6, 7, 8] [] (.seq (.reg false [
      ⟨(some 9), none, .bin .lss (.t 8) (.t 7), 0⟩])
    (.seq (.ite (.t 9) (.skip) (.cut [] [] (.exit 0)))
    (.cut [0, 1, 2, 6, 7, 8] [] (.seq (.blk 1 (.seq (.reg false [
      ⟨(some 10), none, .mv (.t 8), 0⟩,
      ⟨(some 11), none, .iadr 4 (.t 6) (.t 8), 0⟩,
      ⟨(some 12), none, .load (some 4) (.t 11), 0⟩,
      ⟨(some 5), none, .alloc true 39 [.i .i64 (0), .i .u64 (0), .i .u64 (0), .i .i64 (0)], 0⟩,
      ⟨(some 4), none, .mv (.t 10), 0⟩,
      ⟨none, none, .store 4 (.t 5) (.t 12), 0⟩])
    (.reg false [
      ⟨(some 14), none, .mv (.t 0), 0⟩,
      ⟨(some 15), none, .mv (.t 4), 0⟩,
      ⟨(some 16), none, .load (some 4) (.t 5), 0⟩,
      ⟨(some 17), none, .load none (.t 1), 0⟩,
      ⟨(some 18), none, .load none (.t 2), 0⟩,
      ⟨(some 19), none, .call 0 (.k (.fn (.func 51) [] [])) [.t 16, .t 17, .t 18], 0⟩,
      ⟨(some 13), none, .mv (.t 19), 0⟩,
      ⟨(some 20), none, .ext (.t 13) 0, 0⟩,
      ⟨(some 21), none, .ext (.t 13) 1, 0⟩,
      ⟨(some 22), none, .iadr 4 (.t 14) (.t 15), 0⟩,
      ⟨none, none, .store 4 (.t 22) (.t 20), 0⟩])))
    (.cut [0, 1, 2, 6, 7, 8] [] (.reg false [
      ⟨(some 23), none, .bin .add (.t 8) (.k (.i .i64 (1))), 0⟩,
      ⟨(some 8), none, .mv (.t 23), 0⟩]))))))
/-- phasor/tableau.Gate$1 -/
def a50 : AFn := ⟨3, 24, [],
    .seq (.reg false [
      ⟨(some 6), none, .mv (.t 0), 0⟩,
      ⟨(some 7), none, .len false (.t 6), 0⟩,
      ⟨(some 8), none, .mv (.k (.i .i64 (0))), 0⟩])
    (.blk 0 (.loop a50L0))⟩

theorem ok50 : okFn Tryd.prog 2 Tryd.f50 a50 = true := by kernel_rfl

def a51L0 : AC :=
    .cut [1, 2, 3, 6, 8, 33, 34, 35] [3, 6, 8] (.seq (.reg false [
      ⟨(some 36), none, .bin .lss (.t 35) (.t 34), 0⟩])
    (.seq (.ite (.t 36) (.skip) (.cut [1, 2, 3, 6, 8] [3, 6, 8] (.exit 0)))
    (.cut [1, 2, 3, 6, 8, 33, 34, 35] [3, 6, 8] (.seq (.blk 1 (.seq (.reg false [
      ⟨(some 37), none, .iadr 1 (.t 33) (.t 35), 0⟩,
      ⟨(some 38), none, .load none (.t 37), 0⟩,
      ⟨(some 10), none, .mv (.t 38), 0⟩])
    (.seq (.reg true [
      ⟨(some 39), none, .fadr 1 (.t 8), 0⟩,
      ⟨(some 40), none, .load none (.t 39), 1⟩,
      ⟨(some 41), none, .mv (.t 10), 0⟩,
      ⟨(some 42), none, .bin .shl (.k (.i .u64 (1))) (.t 41), 4⟩,
      ⟨(some 43), none, .bin .andNot (.t 40) (.t 42), 15⟩,
      ⟨(some 44), none, .fadr 1 (.t 8), 31⟩,
      ⟨none, none, .store 1 (.t 44) (.t 43), 63⟩])
    (.reg true [
      ⟨(some 45), none, .fadr 2 (.t 8), 0⟩,
      ⟨(some 46), none, .load none (.t 45), 1⟩,
      ⟨(some 47), none, .mv (.t 10), 0⟩,
      ⟨(some 48), none, .bin .shl (.k (.i .u64 (1))) (.t 47), 4⟩,
      ⟨(some 49), none, .bin .andNot (.t 46) (.t 48), 15⟩,
      ⟨(some 50), none, .fadr 2 (.t 8), 31⟩,
      ⟨none, none, .store 1 (.t 50) (.t 49), 63⟩]))))
    (.cut [1, 2, 3, 6, 8, 33, 34, 35] [3, 6, 8] (.reg false [
      ⟨(some 51), none, .bin .add (.t 35) (.k (.i .i64 (1))), 0⟩,
      ⟨(some 35), none, .mv (.t 51), 0⟩]))))))
def a51L1 : AC :=
    .cut [2, 3, 6, 8, 11, 54, 55, 56] [3, 6, 8] (.seq (.reg false [
      ⟨(some 57), none, .bin .lss (.t 56) (.t 55), 0⟩])
    (.seq (.ite (.t 57) (.skip) (.cut [6, 8] [6, 8] (.exit 2)))
    (.cut [2, 3, 6, 8, 11, 54, 55, 56] [3, 6, 8] (.seq (.blk 3 (.seq (.reg false [
      ⟨(some 58), none, .mv (.t 56), 0⟩,
      ⟨(some 59), none, .iadr 1 (.t 54) (.t 56), 0⟩,
      ⟨(some 60), none, .load none (.t 59), 0⟩,
      ⟨(some 12), none, .mv (.t 58), 0⟩,
      ⟨(some 13), none, .mv (.t 60), 0⟩])
    (.seq (.reg false [
      ⟨(some 61), none, .load (some 4) (.t 3), 0⟩,
      ⟨(some 62), none, .mv (.t 13), 0⟩,
      ⟨(some 63), none, .call 0 (.k (.fn (.func 79) [] [])) [.t 61, .t 62], 0⟩,
      ⟨(some 14), none, .mv (.t 63), 0⟩])
    (.seq (.seq (.reg false [
      ⟨(some 64), none, .mv (.t 14), 0⟩,
      ⟨(some 65), none, .bin .eql (.t 64) (.k (.i .i64 (2))), 0⟩])
    (.ite (.t 65) (.reg false [
      ⟨(some 66), none, .fadr 3 (.t 8), 0⟩,
      ⟨(some 67), none, .load none (.t 66), 0⟩,
      ⟨(some 68), none, .bin .add (.t 67) (.k (.i .i64 (1))), 0⟩,
      ⟨(some 69), none, .bin .rem (.t 68) (.k (.i .i64 (4))), 0⟩,
      ⟨(some 70), none, .fadr 3 (.t 8), 0⟩,
      ⟨none, none, .store 1 (.t 70) (.t 69), 0⟩]) (.skip)))
    (.cut [2, 3, 6, 8, 11, 12, 14, 54, 55, 56] [3, 6, 8] (.seq (.seq (.reg false [
      ⟨(some 71), none, .mv (.t 14), 0⟩,
      ⟨(some 72), none, .bin .eql (.t 71) (.k (.i .i64 (1))), 0⟩,
      ⟨(some 73), none, .mv (.t 72), 0⟩,
      ⟨(some 74), (some (73, false)), .mv (.t 14), 0⟩,
      ⟨(some 75), (some (73, false)), .bin .eql (.t 74) (.k (.i .i64 (2))), 0⟩,
      ⟨(some 76), none, .pick (.t 73) (.k (.b true)) (.t 75), 0⟩])
    (.ite (.t 76) (.reg true [
      ⟨(some 77), none, .load (some 4) (.t 8), 0⟩,
      ⟨(some 78), none, .mv (.t 11), 0⟩,
      ⟨(some 79), none, .mv (.t 12), 0⟩,
      ⟨(some 80), none, .bin .mul (.k (.i .i64 (2))) (.t 79), 4⟩,
      ⟨(some 81), none, .iadr 1 (.t 78) (.t 80), 14⟩,
      ⟨(some 82), none, .load none (.t 81), 30⟩,
      ⟨(some 83), none, .fadr 0 (.t 3), 0⟩,
      ⟨(some 84), none, .load none (.t 83), 64⟩,
      ⟨(some 85), none, .mv (.t 2), 0⟩,
      ⟨(some 86), none, .call 0 (.k (.fn (.func 83) [] [])) [.t 82, .t 84, .t 85], 510⟩,
      ⟨(some 87), none, .call 0 (.k (.fn (.func 45) [] [])) [.t 77, .t 86], 1023⟩,
      ⟨none, none, .store 4 (.t 8) (.t 87), 2047⟩]) (.skip)))
    (.cut [2, 3, 6, 8, 11, 12, 14, 54, 55, 56] [3, 6, 8] (.seq (.reg false [
      ⟨(some 88), none, .mv (.t 14), 0⟩,
      ⟨(some 89), none, .bin .geq (.t 88) (.k (.i .i64 (2))), 0⟩])
    (.ite (.t 89) (.reg true [
      ⟨(some 90), none, .load (some 4) (.t 8), 0⟩,
      ⟨(some 91), none, .mv (.t 11), 0⟩,
      ⟨(some 92), none, .mv (.t 12), 0⟩,
      ⟨(some 93), none, .bin .mul (.k (.i .i64 (2))) (.t 92), 4⟩,
      ⟨(some 94), none, .bin .add (.t 93) (.k (.i .i64 (1))), 12⟩,
      ⟨(some 95), none, .iadr 1 (.t 91) (.t 94), 30⟩,
      ⟨(some 96), none, .load none (.t 95), 62⟩,
      ⟨(some 97), none, .fadr 0 (.t 3), 0⟩,
      ⟨(some 98), none, .load none (.t 97), 128⟩,
      ⟨(some 99), none, .mv (.t 2), 0⟩,
      ⟨(some 100), none, .call 0 (.k (.fn (.func 83) [] [])) [.t 96, .t 98, .t 99], 1022⟩,
      ⟨(some 101), none, .call 0 (.k (.fn (.func 45) [] [])) [.t 90, .t 100], 2047⟩,
      ⟨none, none, .store 4 (.t 8) (.t 101), 4095⟩]) (.skip))))))))))
    (.cut [2, 3, 6, 8, 11, 54, 55, 56] [3, 6, 8] (.reg false [
      ⟨(some 102), none, .bin .add (.t 56) (.k (.i .i64 (1))), 0⟩,
      ⟨(some 56), none, .mv (.t 102), 0⟩]))))))
/-- phasor/pauli.Through -/
def a51 : AFn := ⟨3, 104, [.cell 6 (some 4), .t 7],
    .seq (.reg false [
      ⟨(some 3), none, .box true 39 (.t 0), 0⟩,
      ⟨(some 6), none, .alloc true 39 [.i .i64 (0), .i .u64 (0), .i .u64 (0), .i .i64 (0)], 0⟩,
      ⟨(some 7), none, .mv (.k (.i .i64 (0))), 0⟩])
    (.seq (.seq (.reg false [
      ⟨(some 15), none, .load (some 4) (.t 3), 0⟩,
      ⟨(some 16), none, .call 0 (.k (.fn (.func 76) [] [])) [.t 15], 0⟩,
      ⟨(some 17), none, .un .not (.t 16), 0⟩,
      ⟨(some 18), none, .mv (.t 17), 0⟩,
      ⟨(some 19), (some (18, false)), .mv (.t 1), 0⟩,
      ⟨(some 20), (some (18, false)), .call 0 (.k (.fn (.func 48) [] [])) [.t 19], 0⟩,
      ⟨(some 21), (some (18, false)), .un .not (.t 20), 0⟩,
      ⟨(some 22), none, .pick (.t 18) (.k (.b true)) (.t 21), 0⟩,
      ⟨(some 23), none, .mv (.t 22), 0⟩,
      ⟨(some 24), (some (23, false)), .mv (.t 1), 0⟩,
      ⟨(some 25), (some (23, false)), .mv (.t 2), 0⟩,
      ⟨(some 26), (some (23, false)), .fadr 0 (.t 3), 0⟩,
      ⟨(some 27), (some (23, false)), .load none (.t 26), 0⟩,
      ⟨(some 28), (some (23, false)), .call 0 (.k (.fn (.func 47) [] [])) [.t 24, .t 25, .t 27], 0⟩,
      ⟨(some 29), (some (23, false)), .bin .neq (.t 28) (.k (.i .i64 (0))), 0⟩,
      ⟨(some 30), none, .pick (.t 23) (.k (.b true)) (.t 29), 0⟩])
    (.ite (.t 30) (.seq (.reg false [
      ⟨(some 31), none, .build [.i .i64 (0), .i .u64 (0), .i .u64 (0), .i .i64 (0)] [], 0⟩,
      ⟨none, none, .store 4 (.t 6) (.t 31), 0⟩,
      ⟨(some 7), none, .mv (.k (.i .i64 (130))), 0⟩])
    (.cut [6, 7] [6] .ret)) (.skip)))
    (.cut [1, 2, 3, 6] [3, 6] (.seq (.reg false [
      ⟨(some 32), none, .load (some 4) (.t 3), 0⟩,
      ⟨(some 8), none, .alloc true 39 [.i .i64 (0), .i .u64 (0), .i .u64 (0), .i .i64 (0)], 0⟩,
      ⟨none, none, .store 4 (.t 8) (.t 32), 0⟩])
    (.seq (.seq (.reg false [
      ⟨(some 33), none, .mv (.t 2), 0⟩,
      ⟨(some 34), none, .len false (.t 33), 0⟩,
      ⟨(some 35), none, .mv (.k (.i .i64 (0))), 0⟩])
    (.blk 0 (.loop a51L0)))
    (.cut [1, 2, 3, 6, 8] [3, 6, 8] (.seq (.reg false [
      ⟨(some 52), none, .mv (.t 1), 0⟩,
      ⟨(some 53), none, .call 0 (.k (.fn (.func 82) [] [])) [.t 52], 0⟩,
      ⟨(some 11), none, .mv (.t 53), 0⟩])
    (.seq (.seq (.reg false [
      ⟨(some 54), none, .mv (.t 2), 0⟩,
      ⟨(some 55), none, .len false (.t 54), 0⟩,
      ⟨(some 56), none, .mv (.k (.i .i64 (0))), 0⟩])
    (.blk 2 (.loop a51L1)))
    (.cut [6, 8] [6, 8] (.seq (.reg false [
      ⟨(some 103), none, .load (some 4) (.t 8), 0⟩,
      ⟨none, none, .store 4 (.t 6) (.t 103), 0⟩,
      ⟨(some 7), none, .mv (.k (.i .i64 (0))), 0⟩])
    (.cut [6, 7] [6] .ret))))))))))⟩

theorem ok51 : okFn Tryd.prog 2 Tryd.f51 a51 = true := by kernel_rfl

/-- phasor/gate.of -/
def a52 : AFn := ⟨1, 13, [.cell 2 (some 4)],
    .seq (.reg false [
      ⟨(some 2), none, .alloc true 87 [.s ⟨#[]⟩, .i .i64 (0), .i .i64 (0), .i .i64 (0)], 0⟩])
    (.seq (.seq (.reg false [
      ⟨(some 3), none, .mv (.t 0), 0⟩,
      ⟨(some 4), none, .bin .lss (.t 3) (.k (.i .i64 (1))), 0⟩,
      ⟨(some 5), none, .mv (.t 4), 0⟩,
      ⟨(some 6), (some (5, false)), .mv (.t 0), 0⟩,
      ⟨(some 7), (some (5, false)), .bin .gtr (.t 6) (.k (.i .i64 (20))), 0⟩,
      ⟨(some 8), none, .pick (.t 5) (.k (.b true)) (.t 7), 0⟩])
    (.ite (.t 8) (.seq (.reg false [
      ⟨(some 9), none, .build [.s ⟨#[]⟩, .i .i64 (0), .i .i64 (0), .i .i64 (0)] [], 0⟩,
      ⟨none, none, .store 4 (.t 2) (.t 9), 0⟩])
    (.cut [2] [2] .ret)) (.skip)))
    (.cut [0, 2] [2] (.seq (.reg false [
      ⟨(some 10), none, .call 0 (.k (.fn (.func 84) [] [])) [], 0⟩,
      ⟨(some 11), none, .mv (.t 0), 0⟩,
      ⟨(some 12), none, .idx 4 true 21 (.t 10) (.t 11), 0⟩,
      ⟨none, none, .store 4 (.t 2) (.t 12), 0⟩])
    (.cut [2] [2] .ret))))⟩

theorem ok52 : okFn Tryd.prog 2 Tryd.f52 a52 = true := by kernel_rfl

def a53L0 : AC :=
    .cut [0, 1, 7, 8, 9] [] (.seq (.reg false [
      ⟨(some 10), none, .bin .lss (.t 9) (.t 8), 0⟩])
    (.seq (.ite (.t 10) (.skip) (.cut [] [] (.exit 0)))
    (.cut [0, 1, 7, 8, 9] [] (.seq (.blk 1 (.seq (.reg false [
      ⟨(some 11), none, .mv (.t 9), 0⟩,
      ⟨(some 12), none, .iadr 1 (.t 7) (.t 9), 0⟩,
      ⟨(some 13), none, .load none (.t 12), 0⟩,
      ⟨(some 5), none, .mv (.t 11), 0⟩,
      ⟨(some 6), none, .mv (.t 13), 0⟩])
    (.seq (.reg false [
      ⟨(some 14), none, .mv (.t 6), 0⟩,
      ⟨(some 15), none, .bin .lss (.t 14) (.k (.i .i64 (0))), 0⟩,
      ⟨(some 16), none, .mv (.t 15), 0⟩,
      ⟨(some 17), (some (16, false)), .mv (.t 6), 0⟩,
      ⟨(some 18), (some (16, false)), .mv (.t 1), 0⟩,
      ⟨(some 19), (some (16, false)), .bin .geq (.t 17) (.t 18), 0⟩,
      ⟨(some 20), none, .pick (.t 16) (.k (.b true)) (.t 19), 0⟩,
      ⟨(some 21), none, .mv (.t 20), 0⟩,
      ⟨(some 22), (some (21, false)), .mv (.t 0), 0⟩,
      ⟨(some 23), (some (21, false)), .mv (.t 5), 0⟩,
      ⟨(some 24), (some (21, false)), .slc 1 (.t 22) none (some (.t 23)) none, 0⟩,
      ⟨(some 25), (some (21, false)), .mv (.t 6), 0⟩,
      ⟨(some 26), (some (21, false)), .call 0 (.k (.fn (.func 81) [] [])) [.t 24, .t 25], 0⟩,
      ⟨(some 27), none, .pick (.t 21) (.k (.b true)) (.t 26), 0⟩])
    (.ite (.t 27) (.seq (.reg false [
      ⟨(some 4), none, .mv (.k (.b false)), 0⟩])
    (.cut [4] [] .ret)) (.skip)))))
    (.cut [0, 1, 7, 8, 9] [] (.reg false [
      ⟨(some 28), none, .bin .add (.t 9) (.k (.i .i64 (1))), 0⟩,
      ⟨(some 9), none, .mv (.t 28), 0⟩]))))))
/-- phasor/tableau.unlike -/
def a53 : AFn := ⟨2, 29, [.t 4],
    .seq (.reg false [
      ⟨(some 4), none, .mv (.k (.b false)), 0⟩])
    (.seq (.seq (.reg false [
      ⟨(some 7), none, .mv (.t 0), 0⟩,
      ⟨(some 8), none, .len false (.t 7), 0⟩,
      ⟨(some 9), none, .mv (.k (.i .i64 (0))), 0⟩])
    (.blk 0 (.loop a53L0)))
    (.cut [] [] (.seq (.reg false [
      ⟨(some 4), none, .mv (.k (.b true)), 0⟩])
    (.cut [4] [] .ret))))⟩

theorem ok53 : okFn Tryd.prog 2 Tryd.f53 a53 = true := by kernel_rfl

/-- slices.Clone[[]phasor/api.Pauli,phasor/api.Pauli] -/
def a54 : AFn := ⟨1, 8, [.t 2],
    .seq (.reg false [
      ⟨(some 2), none, .mv (.k (.sl none 0 (.ex 0))), 0⟩])
    (.seq (.seq (.reg false [
      ⟨(some 3), none, .mv (.t 0), 0⟩,
      ⟨(some 4), none, .eqnil false (.t 3), 0⟩])
    (.ite (.t 4) (.seq (.reg false [
      ⟨(some 2), none, .mv (.k (.sl none 0 (.ex 0))), 0⟩])
    (.cut [2] [] .ret)) (.skip)))
    (.cut [0] [] (.seq (.reg false [
      ⟨(some 5), none, .bslice 39 4 0 [] [], 0⟩,
      ⟨(some 6), none, .mv (.t 0), 0⟩,
      ⟨(some 7), none, .app 39 4 32 (.t 5) (.t 6), 0⟩,
      ⟨(some 2), none, .mv (.t 7), 0⟩])
    (.cut [2] [] .ret))))⟩

theorem ok54 : okFn Tryd.prog 2 Tryd.f54 a54 = true := by kernel_rfl

def a55L0 : AC :=
    .cutg 2 [0, 5, 6, 7, 8, 13, 14] [] (.seq (.seq (.reg false [
      ⟨(some 18), none, .mv (.t 8), 0⟩,
      ⟨(some 19), none, .mv (.t 0), 0⟩,
      ⟨(some 20), none, .len false (.t 19), 0⟩,
      ⟨(some 21), none, .bin .lss (.t 18) (.t 20), 0⟩,
      ⟨(some 22), none, .mv (.t 21), 0⟩,
      ⟨(some 23), (some (22, true)), .mv (.t 7), 0⟩,
      ⟨(some 24), (some (22, true)), .bin .lss (.t 23) (.k (.i .i64 (0))), 0⟩,
      ⟨(some 25), none, .pick (.t 22) (.t 24) (.k (.b false)), 0⟩])
    (.ite (.t 25) (.skip) (.cutg 2 [0, 5, 6, 7, 13, 14] [] (.exit 2))))
    (.cutg 2 [0, 5, 6, 7, 8, 13, 14] [] (.seq (.blk 3 (.seq (.reg false [
      ⟨(some 28), none, .mv (.t 0), 0⟩,
      ⟨(some 29), none, .mv (.t 8), 0⟩,
      ⟨(some 30), none, .iadr 4 (.t 28) (.t 29), 0⟩,
      ⟨(some 31), none, .load (some 4) (.t 30), 0⟩,
      ⟨(some 32), none, .mv (.t 6), 0⟩,
      ⟨(some 33), none, .call 0 (.k (.fn (.func 85) [] [])) [.t 31, .t 32], 0⟩,
      ⟨(some 34), none, .bin .eql (.t 33) (.k (.i .u64 (1))), 0⟩])
    (.ite (.t 34) (.reg false [
      ⟨(some 35), none, .mv (.t 8), 0⟩,
      ⟨(some 7), none, .mv (.t 35), 0⟩]) (.skip))))
    (.cutg 2 [0, 5, 6, 7, 8, 13, 14] [] (.reg false [
      ⟨(some 26), none, .mv (.t 8), 0⟩,
      ⟨(some 27), none, .bin .add (.t 26) (.k (.i .i64 (1))), 0⟩,
      ⟨(some 8), none, .mv (.t 27), 0⟩])))))
def a55L1 : AC :=
    .cutg 2 [0, 5, 6, 13, 14, 53, 54] [] (.seq (.reg false [
      ⟨(some 55), none, .bin .lss (.t 54) (.t 53), 0⟩])
    (.seq (.ite (.t 55) (.skip) (.cutg 2 [0, 5, 13, 14] [] (.exit 4)))
    (.cutg 2 [0, 5, 6, 13, 14, 53, 54] [] (.seq (.blk 5 (.seq (.reg false [
      ⟨(some 56), none, .mv (.t 54), 0⟩,
      ⟨(some 9), none, .mv (.t 56), 0⟩])
    (.seq (.reg false [
      ⟨(some 57), none, .mv (.t 9), 0⟩,
      ⟨(some 58), none, .mv (.t 5), 0⟩,
      ⟨(some 59), none, .bin .neq (.t 57) (.t 58), 0⟩,
      ⟨(some 60), none, .mv (.t 59), 0⟩,
      ⟨(some 61), (some (60, true)), .mv (.t 0), 0⟩,
      ⟨(some 62), (some (60, true)), .mv (.t 9), 0⟩,
      ⟨(some 63), (some (60, true)), .iadr 4 (.t 61) (.t 62), 0⟩,
      ⟨(some 64), (some (60, true)), .load (some 4) (.t 63), 0⟩,
      ⟨(some 65), (some (60, true)), .mv (.t 6), 0⟩,
      ⟨(some 66), (some (60, true)), .call 0 (.k (.fn (.func 85) [] [])) [.t 64, .t 65], 0⟩,
      ⟨(some 67), (some (60, true)), .bin .eql (.t 66) (.k (.i .u64 (1))), 0⟩,
      ⟨(some 68), none, .pick (.t 60) (.t 67) (.k (.b false)), 0⟩])
    (.ite (.t 68) (.reg true [
      ⟨(some 69), none, .mv (.t 0), 0⟩,
      ⟨(some 70), none, .mv (.t 9), 0⟩,
      ⟨(some 71), none, .mv (.t 0), 0⟩,
      ⟨(some 72), none, .mv (.t 9), 0⟩,
      ⟨(some 73), none, .iadr 4 (.t 71) (.t 72), 12⟩,
      ⟨(some 74), none, .load (some 4) (.t 73), 28⟩,
      ⟨(some 75), none, .mv (.t 0), 0⟩,
      ⟨(some 76), none, .mv (.t 5), 0⟩,
      ⟨(some 77), none, .iadr 4 (.t 75) (.t 76), 192⟩,
      ⟨(some 78), none, .load (some 4) (.t 77), 448⟩,
      ⟨(some 79), none, .call 0 (.k (.fn (.func 86) [] [])) [.t 74, .t 78], 1020⟩,
      ⟨(some 80), none, .iadr 4 (.t 69) (.t 70), 2047⟩,
      ⟨none, none, .store 4 (.t 80) (.t 79), 4095⟩]) (.skip)))))
    (.cutg 2 [0, 5, 6, 13, 14, 53, 54] [] (.reg false [
      ⟨(some 81), none, .bin .add (.t 54) (.k (.i .i64 (1))), 0⟩,
      ⟨(some 54), none, .mv (.t 81), 0⟩]))))))
def a55L2 : AC :=
    .cutg 2 [0, 5, 13, 14] [] (.seq (.reg false [
      ⟨(some 15), none, .bin .lss (.t 14) (.t 13), 0⟩])
    (.seq (.ite (.t 15) (.skip) (.cutg 2 [0] [] (.exit 0)))
    (.cutg 2 [0, 5, 13, 14] [] (.seq (.blk 1 (.seq (.reg false [
      ⟨(some 16), none, .mv (.t 14), 0⟩,
      ⟨(some 6), none, .mv (.t 16), 0⟩])
    (.seq (.reg false [
      ⟨(some 7), none, .mv (.k (.i .i64 (-1))), 0⟩])
    (.seq (.seq (.reg false [
      ⟨(some 17), none, .mv (.t 5), 0⟩,
      ⟨(some 8), none, .mv (.t 17), 0⟩])
    (.blk 2 (.loop a55L0)))
    (.cutg 2 [0, 5, 6, 7, 13, 14] [] (.seq (.seq (.reg false [
      ⟨(some 36), none, .mv (.t 7), 0⟩,
      ⟨(some 37), none, .bin .lss (.t 36) (.k (.i .i64 (0))), 0⟩])
    (.ite (.t 37) (.cutg 2 [0, 5, 13, 14] [] (.exit 1)) (.skip)))
    (.cutg 2 [0, 5, 6, 7, 13, 14] [] (.seq (.reg true [
      ⟨(some 38), none, .mv (.t 0), 0⟩,
      ⟨(some 39), none, .mv (.t 5), 0⟩,
      ⟨(some 40), none, .mv (.t 0), 0⟩,
      ⟨(some 41), none, .mv (.t 7), 0⟩,
      ⟨(some 42), none, .mv (.t 0), 0⟩,
      ⟨(some 43), none, .mv (.t 7), 0⟩,
      ⟨(some 44), none, .iadr 4 (.t 42) (.t 43), 48⟩,
      ⟨(some 45), none, .load (some 4) (.t 44), 112⟩,
      ⟨(some 46), none, .mv (.t 0), 0⟩,
      ⟨(some 47), none, .mv (.t 5), 0⟩,
      ⟨(some 48), none, .iadr 4 (.t 46) (.t 47), 768⟩,
      ⟨(some 49), none, .load (some 4) (.t 48), 1792⟩,
      ⟨(some 50), none, .iadr 4 (.t 38) (.t 39), 4083⟩,
      ⟨none, none, .store 4 (.t 50) (.t 45), 8179⟩,
      ⟨(some 51), none, .iadr 4 (.t 40) (.t 41), 16383⟩,
      ⟨none, none, .store 4 (.t 51) (.t 49), 32767⟩])
    (.seq (.seq (.reg false [
      ⟨(some 52), none, .mv (.t 0), 0⟩,
      ⟨(some 53), none, .len false (.t 52), 0⟩,
      ⟨(some 54), none, .mv (.k (.i .i64 (0))), 0⟩])
    (.blk 4 (.loop a55L1)))
    (.cutg 2 [0, 5, 13, 14] [] (.reg false [
      ⟨(some 82), none, .mv (.t 5), 0⟩,
      ⟨(some 83), none, .bin .add (.t 82) (.k (.i .i64 (1))), 0⟩,
      ⟨(some 5), none, .mv (.t 83), 0⟩])))))))))))
    (.cutg 2 [0, 5, 13, 14] [] (.reg false [
      ⟨(some 84), none, .bin .add (.t 14) (.k (.i .i64 (1))), 0⟩,
      ⟨(some 14), none, .mv (.t 84), 0⟩]))))))
/-- phasor/tableau.echelon -/
def a55 : AFn := ⟨2, 86, [.t 4],
    .seq (.reg false [
      ⟨(some 4), none, .mv (.k (.sl none 0 (.ex 0))), 0⟩])
    (.seq (.reg false [
      ⟨(some 10), none, .mv (.t 0), 0⟩,
      ⟨(some 11), none, .call 1 (.k (.fn (.func 54) [] [])) [.t 10], 0⟩,
      ⟨(some 0), none, .mv (.t 11), 0⟩])
    (.seq (.reg false [
      ⟨(some 5), none, .mv (.k (.i .i64 (0))), 0⟩])
    (.seq (.seq (.reg false [
      ⟨(some 12), none, .mv (.t 1), 0⟩,
      ⟨(some 13), none, .bin .mul (.k (.i .i64 (2))) (.t 12), 0⟩,
      ⟨(some 14), none, .mv (.k (.i .i64 (0))), 0⟩])
    (.blk 0 (.loop a55L2)))
    (.cutg 2 [0] [] (.seq (.reg false [
      ⟨(some 85), none, .mv (.t 0), 0⟩,
      ⟨(some 4), none, .mv (.t 85), 0⟩])
    (.cutg 2 [4] [] .ret))))))⟩

theorem ok55 : okFn Tryd.prog 2 Tryd.f55 a55 = true := by kernel_rfl

/-- phasor/tableau.asked -/
def a56 : AFn := ⟨2, 19, [.t 4],
    .seq (.reg false [
      ⟨(some 2), none, .box true 24 (.t 0), 0⟩,
      ⟨(some 4), none, .mv (.k (.i .i64 (0))), 0⟩])
    (.seq (.seq (.reg false [
      ⟨(some 6), none, .load (some 3) (.t 2), 0⟩,
      ⟨(some 7), none, .call 0 (.k (.fn (.func 14) [] [])) [.t 6], 0⟩,
      ⟨(some 5), none, .mv (.t 7), 0⟩])
    (.seq (.reg false [
      ⟨(some 8), none, .mv (.t 5), 0⟩,
      ⟨(some 9), none, .bin .neq (.t 8) (.k (.i .i64 (0))), 0⟩])
    (.ite (.t 9) (.seq (.reg false [
      ⟨(some 10), none, .mv (.t 5), 0⟩,
      ⟨(some 4), none, .mv (.t 10), 0⟩])
    (.cut [4] [] .ret)) (.skip))))
    (.cut [1, 2] [2] (.seq (.seq (.reg false [
      ⟨(some 11), none, .mv (.t 1), 0⟩,
      ⟨(some 12), none, .bin .lss (.t 11) (.k (.i .i64 (0))), 0⟩,
      ⟨(some 13), none, .mv (.t 12), 0⟩,
      ⟨(some 14), (some (13, false)), .mv (.t 1), 0⟩,
      ⟨(some 15), (some (13, false)), .fadr 0 (.t 2), 0⟩,
      ⟨(some 16), (some (13, false)), .load none (.t 15), 0⟩,
      ⟨(some 17), (some (13, false)), .bin .geq (.t 14) (.t 16), 0⟩,
      ⟨(some 18), none, .pick (.t 13) (.k (.b true)) (.t 17), 0⟩])
    (.ite (.t 18) (.seq (.reg false [
      ⟨(some 4), none, .mv (.k (.i .i64 (2))), 0⟩])
    (.cut [4] [] .ret)) (.skip)))
    (.cut [] [] (.seq (.reg false [
      ⟨(some 4), none, .mv (.k (.i .i64 (0))), 0⟩])
    (.cut [4] [] .ret))))))⟩

theorem ok56 : okFn Tryd.prog 2 Tryd.f56 a56 = true := by kernel_rfl

/-- phasor/tableau.open -/
def a57 : AFn := ⟨2, 9, [.t 4],
    .seq (.reg false [
      ⟨(some 2), none, .box true 24 (.t 0), 0⟩,
      ⟨(some 3), none, .box false 3 (.t 1), 0⟩,
      ⟨(some 4), none, .mv (.k (.i .i64 (0))), 0⟩])
    (.seq (.reg false [
      ⟨(some 5), none, .fadr 1 (.t 2), 0⟩,
      ⟨(some 6), none, .load none (.t 5), 0⟩,
      ⟨(some 7), none, .mkf (.func 87) [] [.t 3], 0⟩,
      ⟨(some 8), none, .call 0 (.k (.fn (.func 60) [] [])) [.t 6, .t 7], 0⟩,
      ⟨(some 4), none, .mv (.t 8), 0⟩])
    (.cutg 2 [4] [] .ret))⟩

theorem ok57 : okFn Tryd.prog 2 Tryd.f57 a57 = true := by kernel_rfl

def a58L0 : AC :=
    .cut [2, 3, 4, 5, 12, 13, 14] [2, 3, 4, 5] (.seq (.reg false [
      ⟨(some 15), none, .bin .lss (.t 14) (.t 13), 0⟩])
    (.seq (.ite (.t 15) (.skip) (.cut [4, 5] [4, 5] (.exit 0)))
    (.cut [2, 3, 4, 5, 12, 13, 14] [2, 3, 4, 5] (.seq (.blk 1 (.seq (.reg false [
      ⟨(some 16), none, .mv (.t 14), 0⟩,
      ⟨(some 17), none, .iadr 4 (.t 12) (.t 14), 0⟩,
      ⟨(some 18), none, .load (some 4) (.t 17), 0⟩,
      ⟨(some 7), none, .alloc true 39 [.i .i64 (0), .i .u64 (0), .i .u64 (0), .i .i64 (0)], 0⟩,
      ⟨(some 6), none, .mv (.t 16), 0⟩,
      ⟨none, none, .store 4 (.t 7) (.t 18), 0⟩])
    (.seq (.reg false [
      ⟨(some 19), none, .load (some 4) (.t 7), 0⟩,
      ⟨(some 20), none, .load (some 4) (.t 3), 0⟩,
      ⟨(some 21), none, .call 0 (.k (.fn (.func 40) [] [])) [.t 19, .t 20], 0⟩,
      ⟨(some 22), none, .un .not (.t 21), 0⟩])
    (.ite (.t 22) (.reg true [
      ⟨(some 23), none, .load (some 4) (.t 5), 0⟩,
      ⟨(some 24), none, .fadr 1 (.t 2), 0⟩,
      ⟨(some 25), none, .load none (.t 24), 2⟩,
      ⟨(some 26), none, .mv (.t 6), 0⟩,
      ⟨(some 27), none, .iadr 4 (.t 25) (.t 26), 14⟩,
      ⟨(some 28), none, .load (some 4) (.t 27), 30⟩,
      ⟨(some 29), none, .call 0 (.k (.fn (.func 86) [] [])) [.t 23, .t 28], 63⟩,
      ⟨none, none, .store 4 (.t 5) (.t 29), 127⟩]) (.skip)))))
    (.cut [2, 3, 4, 5, 12, 13, 14] [2, 3, 4, 5] (.reg false [
      ⟨(some 30), none, .bin .add (.t 14) (.k (.i .i64 (1))), 0⟩,
      ⟨(some 14), none, .mv (.t 30), 0⟩]))))))
/-- phasor/tableau.sure -/
def a58 : AFn := ⟨2, 32, [.cell 4 (some 4)],
    .seq (.reg false [
      ⟨(some 2), none, .box true 24 (.t 0), 0⟩,
      ⟨(some 3), none, .box true 39 (.t 1), 0⟩,
      ⟨(some 4), none, .alloc true 39 [.i .i64 (0), .i .u64 (0), .i .u64 (0), .i .i64 (0)], 0⟩])
    (.seq (.reg false [
      ⟨(some 8), none, .fadr 0 (.t 2), 0⟩,
      ⟨(some 9), none, .load none (.t 8), 0⟩,
      ⟨(some 10), none, .build [.i .i64 (0), .i .u64 (0), .i .u64 (0), .i .i64 (0)] [(0, 1, .t 9)], 0⟩,
      ⟨(some 5), none, .alloc true 39 [.i .i64 (0), .i .u64 (0), .i .u64 (0), .i .i64 (0)], 0⟩,
      ⟨none, none, .store 4 (.t 5) (.t 10), 0⟩])
    (.seq (.seq (.reg false [
      ⟨(some 11), none, .fadr 2 (.t 2), 0⟩,
      ⟨(some 12), none, .load none (.t 11), 0⟩,
      ⟨(some 13), none, .len false (.t 12), 0⟩,
      ⟨(some 14), none, .mv (.k (.i .i64 (0))), 0⟩])
    (.blk 0 (.loop a58L0)))
    (.cut [4, 5] [4, 5] (.seq (.reg false [
      ⟨(some 31), none, .load (some 4) (.t 5), 0⟩,
      ⟨none, none, .store 4 (.t 4) (.t 31), 0⟩])
    (.cut [4] [4] .ret)))))⟩

theorem ok58 : okFn Tryd.prog 2 Tryd.f58 a58 = true := by kernel_rfl

/-- phasor/tableau.replaced -/
def a59 : AFn := ⟨3, 35, [.cell 6 (some 3)],
    .seq (.reg false [
      ⟨(some 3), none, .box false 24 (.t 0), 0⟩,
      ⟨(some 4), none, .box false 3 (.t 1), 0⟩,
      ⟨(some 5), none, .box false 39 (.t 2), 0⟩,
      ⟨(some 6), none, .alloc true 24 [.i .i64 (0), .sl none 0 (.ex 0), .sl none 0 (.ex 0)], 0⟩])
    (.seq (.reg false [
      ⟨(some 9), none, .load (some 3) (.t 3), 0⟩,
      ⟨(some 10), none, .call 1 (.k (.fn (.func 49) [] [])) [.t 9], 0⟩,
      ⟨(some 7), none, .alloc true 24 [.i .i64 (0), .sl none 0 (.ex 0), .sl none 0 (.ex 0)], 0⟩,
      ⟨none, none, .store 3 (.t 7) (.t 10), 0⟩])
    (.seq (.reg false [
      ⟨(some 11), none, .mkf (.func 88) [] [.t 4, .t 5, .t 3], 0⟩,
      ⟨(some 8), none, .mv (.t 11), 0⟩])
    (.seq (.reg false [
      ⟨(some 12), none, .mv (.t 8), 0⟩,
      ⟨(some 13), none, .fadr 1 (.t 7), 0⟩,
      ⟨(some 14), none, .load none (.t 13), 0⟩,
      ⟨(some 15), none, .call 2 (.t 12) [.t 14], 0⟩])
    (.seq (.reg false [
      ⟨(some 16), none, .mv (.t 8), 0⟩,
      ⟨(some 17), none, .fadr 2 (.t 7), 0⟩,
      ⟨(some 18), none, .load none (.t 17), 0⟩,
      ⟨(some 19), none, .call 2 (.t 16) [.t 18], 0⟩])
    (.seq (.reg true [
      ⟨(some 20), none, .fadr 2 (.t 7), 0⟩,
      ⟨(some 21), none, .load none (.t 20), 1⟩,
      ⟨(some 22), none, .load none (.t 4), 0⟩,
      ⟨(some 23), none, .fadr 1 (.t 7), 0⟩,
      ⟨(some 24), none, .load none (.t 23), 8⟩,
      ⟨(some 25), none, .load none (.t 4), 0⟩,
      ⟨(some 26), none, .fadr 1 (.t 3), 0⟩,
      ⟨(some 27), none, .load none (.t 26), 64⟩,
      ⟨(some 28), none, .load none (.t 4), 0⟩,
      ⟨(some 29), none, .iadr 4 (.t 27) (.t 28), 448⟩,
      ⟨(some 30), none, .load (some 4) (.t 29), 960⟩,
      ⟨(some 31), none, .load (some 4) (.t 5), 0⟩,
      ⟨(some 32), none, .iadr 4 (.t 21) (.t 22), 1991⟩,
      ⟨none, none, .store 4 (.t 32) (.t 30), 6087⟩,
      ⟨(some 33), none, .iadr 4 (.t 24) (.t 25), 16383⟩,
      ⟨none, none, .store 4 (.t 33) (.t 31), 32767⟩])
    (.seq (.reg false [
      ⟨(some 34), none, .load (some 3) (.t 7), 0⟩,
      ⟨none, none, .store 3 (.t 6) (.t 34), 0⟩])
    (.cutg 2 [6] [6] .ret)))))))⟩

theorem ok59 : okFn Tryd.prog 2 Tryd.f59 a59 = true := by kernel_rfl

def a60L0 : AC :=
    .cut [0, 1, 7, 8] [] (.seq (.reg false [
      ⟨(some 9), none, .bin .lss (.t 8) (.t 7), 0⟩])
    (.seq (.ite (.t 9) (.skip) (.cut [] [] (.exit 0)))
    (.cut [0, 1, 7, 8] [] (.seq (.blk 1 (.seq (.reg false [
      ⟨(some 10), none, .mv (.t 8), 0⟩,
      ⟨(some 5), none, .mv (.t 10), 0⟩])
    (.seq (.reg false [
      ⟨(some 11), none, .mv (.t 1), 0⟩,
      ⟨(some 12), none, .mv (.t 0), 0⟩,
      ⟨(some 13), none, .mv (.t 5), 0⟩,
      ⟨(some 14), none, .iadr 4 (.t 12) (.t 13), 0⟩,
      ⟨(some 15), none, .load (some 4) (.t 14), 0⟩,
      ⟨(some 16), none, .call 0 (.t 11) [.t 15], 0⟩])
    (.ite (.t 16) (.seq (.reg false [
      ⟨(some 17), none, .mv (.t 5), 0⟩,
      ⟨(some 4), none, .mv (.t 17), 0⟩])
    (.cut [4] [] .ret)) (.skip)))))
    (.cut [0, 1, 7, 8] [] (.reg false [
      ⟨(some 18), none, .bin .add (.t 8) (.k (.i .i64 (1))), 0⟩,
      ⟨(some 8), none, .mv (.t 18), 0⟩]))))))
/-- slices.IndexFunc[[]phasor/api.Pauli,phasor/api.Pauli] -/
def a60 : AFn := ⟨2, 19, [.t 4],
    .seq (.reg false [
      ⟨(some 4), none, .mv (.k (.i .i64 (0))), 0⟩])
    (.seq (.seq (.reg false [
      ⟨(some 6), none, .mv (.t 0), 0⟩,
      ⟨(some 7), none, .len false (.t 6), 0⟩,
      ⟨(some 8), none, .mv (.k (.i .i64 (0))), 0⟩])
    (.blk 0 (.loop a60L0)))
    (.cut [] [] (.seq (.reg false [
      ⟨(some 4), none, .mv (.k (.i .i64 (-1))), 0⟩])
    (.cut [4] [] .ret))))⟩

theorem ok60 : okFn Tryd.prog 2 Tryd.f60 a60 = true := by kernel_rfl

/-- phasor/pauli.right -/
def a76 : AFn := ⟨1, 6, [.t 2],
    .seq (.reg false [
      ⟨(some 1), none, .box true 39 (.t 0), 0⟩,
      ⟨(some 2), none, .mv (.k (.b false)), 0⟩])
    (.seq (.reg false [
      ⟨(some 3), none, .load (some 4) (.t 1), 0⟩,
      ⟨(some 4), none, .call 0 (.k (.fn (.func 97) [] [])) [.t 3], 0⟩,
      ⟨(some 5), none, .bin .eql (.t 4) (.k (.i .i64 (0))), 0⟩,
      ⟨(some 2), none, .mv (.t 5), 0⟩])
    (.cut [2] [] .ret))⟩

theorem ok76 : okFn Tryd.prog 2 Tryd.f76 a76 = true := by kernel_rfl

/-- math/bits.OnesCount64 -/
def a77 : AFn := ⟨1, 35, [.t 2],
    .seq (.reg false [
      ⟨(some 2), none, .mv (.k (.i .i64 (0))), 0⟩])
    (.seq (.reg false [
      ⟨(some 3), none, .mv (.t 0), 0⟩,
      ⟨(some 4), none, .bin .shr (.t 3) (.k (.i .u64 (1))), 0⟩,
      ⟨(some 5), none, .bin .and (.t 4) (.k (.i .u64 (6148914691236517205))), 0⟩,
      ⟨(some 6), none, .mv (.t 0), 0⟩,
      ⟨(some 7), none, .bin .and (.t 6) (.k (.i .u64 (6148914691236517205))), 0⟩,
      ⟨(some 8), none, .bin .add (.t 5) (.t 7), 0⟩,
      ⟨(some 0), none, .mv (.t 8), 0⟩])
    (.seq (.reg false [
      ⟨(some 9), none, .mv (.t 0), 0⟩,
      ⟨(some 10), none, .bin .shr (.t 9) (.k (.i .u64 (2))), 0⟩,
      ⟨(some 11), none, .bin .and (.t 10) (.k (.i .u64 (3689348814741910323))), 0⟩,
      ⟨(some 12), none, .mv (.t 0), 0⟩,
      ⟨(some 13), none, .bin .and (.t 12) (.k (.i .u64 (3689348814741910323))), 0⟩,
      ⟨(some 14), none, .bin .add (.t 11) (.t 13), 0⟩,
      ⟨(some 0), none, .mv (.t 14), 0⟩])
    (.seq (.reg false [
      ⟨(some 15), none, .mv (.t 0), 0⟩,
      ⟨(some 16), none, .bin .shr (.t 15) (.k (.i .u64 (4))), 0⟩,
      ⟨(some 17), none, .mv (.t 0), 0⟩,
      ⟨(some 18), none, .bin .add (.t 16) (.t 17), 0⟩,
      ⟨(some 19), none, .bin .and (.t 18) (.k (.i .u64 (1085102592571150095))), 0⟩,
      ⟨(some 0), none, .mv (.t 19), 0⟩])
    (.seq (.reg false [
      ⟨(some 20), none, .mv (.t 0), 0⟩,
      ⟨(some 21), none, .mv (.t 0), 0⟩,
      ⟨(some 22), none, .bin .shr (.t 21) (.k (.i .u64 (8))), 0⟩,
      ⟨(some 23), none, .bin .add (.t 20) (.t 22), 0⟩,
      ⟨(some 0), none, .mv (.t 23), 0⟩])
    (.seq (.reg false [
      ⟨(some 24), none, .mv (.t 0), 0⟩,
      ⟨(some 25), none, .mv (.t 0), 0⟩,
      ⟨(some 26), none, .bin .shr (.t 25) (.k (.i .u64 (16))), 0⟩,
      ⟨(some 27), none, .bin .add (.t 24) (.t 26), 0⟩,
      ⟨(some 0), none, .mv (.t 27), 0⟩])
    (.seq (.reg false [
      ⟨(some 28), none, .mv (.t 0), 0⟩,
      ⟨(some 29), none, .mv (.t 0), 0⟩,
      ⟨(some 30), none, .bin .shr (.t 29) (.k (.i .u64 (32))), 0⟩,
      ⟨(some 31), none, .bin .add (.t 28) (.t 30), 0⟩,
      ⟨(some 0), none, .mv (.t 31), 0⟩])
    (.seq (.reg false [
      ⟨(some 32), none, .mv (.t 0), 0⟩,
      ⟨(some 33), none, .conv .i64 (.t 32), 0⟩,
      ⟨(some 34), none, .bin .and (.t 33) (.k (.i .i64 (127))), 0⟩,
      ⟨(some 2), none, .mv (.t 34), 0⟩])
    (.cut [2] [] .ret))))))))⟩

theorem ok77 : okFn Tryd.prog 2 Tryd.f77 a77 = true := by kernel_rfl

/-- math/bits.TrailingZeros64 -/
def a78 : AFn := ⟨1, 14, [.t 2],
    .seq (.reg false [
      ⟨(some 2), none, .mv (.k (.i .i64 (0))), 0⟩])
    (.seq (.seq (.reg false [
      ⟨(some 3), none, .mv (.t 0), 0⟩,
      ⟨(some 4), none, .bin .eql (.t 3) (.k (.i .u64 (0))), 0⟩])
    (.ite (.t 4) (.seq (.reg false [
      ⟨(some 2), none, .mv (.k (.i .i64 (64))), 0⟩])
    (.cut [2] [] .ret)) (.skip)))
    (.cut [0] [] (.seq (.reg false [
      ⟨(some 5), none, .mv (.t 0), 0⟩,
      ⟨(some 6), none, .mv (.t 0), 0⟩,
      ⟨(some 7), none, .un .neg (.t 6), 0⟩,
      ⟨(some 8), none, .bin .and (.t 5) (.t 7), 0⟩,
      ⟨(some 9), none, .bin .mul (.t 8) (.k (.i .u64 (285870213051353865))), 0⟩,
      ⟨(some 10), none, .bin .shr (.t 9) (.k (.i .u64 (58))), 0⟩,
      ⟨(some 11), none, .iadra 1 64 (.k (.p (some (0, 0)))) (.t 10), 0⟩,
      ⟨(some 12), none, .load none (.t 11), 0⟩,
      ⟨(some 13), none, .conv .i64 (.t 12), 0⟩,
      ⟨(some 2), none, .mv (.t 13), 0⟩])
    (.cut [2] [] .ret))))⟩

theorem ok78 : okFn Tryd.prog 2 Tryd.f78 a78 = true := by kernel_rfl

/-- phasor/pauli.code -/
def a79 : AFn := ⟨2, 23, [.t 4],
    .seq (.reg false [
      ⟨(some 2), none, .box true 39 (.t 0), 0⟩,
      ⟨(some 4), none, .mv (.k (.i .i64 (0))), 0⟩])
    (.seq (.reg true [
      ⟨(some 7), none, .fadr 1 (.t 2), 0⟩,
      ⟨(some 8), none, .load none (.t 7), 1⟩,
      ⟨(some 9), none, .mv (.t 1), 0⟩,
      ⟨(some 10), none, .bin .shr (.t 8) (.t 9), 7⟩,
      ⟨(some 11), none, .bin .and (.t 10) (.k (.i .u64 (1))), 15⟩,
      ⟨(some 12), none, .conv .i64 (.t 11), 31⟩,
      ⟨(some 13), none, .fadr 2 (.t 2), 0⟩,
      ⟨(some 14), none, .load none (.t 13), 64⟩,
      ⟨(some 15), none, .mv (.t 1), 0⟩,
      ⟨(some 16), none, .bin .shr (.t 14) (.t 15), 448⟩,
      ⟨(some 17), none, .bin .and (.t 16) (.k (.i .u64 (1))), 960⟩,
      ⟨(some 18), none, .conv .i64 (.t 17), 1984⟩,
      ⟨(some 5), none, .mv (.t 12), 63⟩,
      ⟨(some 6), none, .mv (.t 18), 8191⟩])
    (.seq (.reg false [
      ⟨(some 19), none, .mv (.t 5), 0⟩,
      ⟨(some 20), none, .mv (.t 6), 0⟩,
      ⟨(some 21), none, .bin .mul (.k (.i .i64 (3))) (.t 20), 0⟩,
      ⟨(some 22), none, .bin .xor (.t 19) (.t 21), 0⟩,
      ⟨(some 4), none, .mv (.t 22), 0⟩])
    (.cut [4] [] .ret)))⟩

theorem ok79 : okFn Tryd.prog 2 Tryd.f79 a79 = true := by kernel_rfl

/-- phasor/gate.Arity -/
def a80 : AFn := ⟨1, 6, [.t 2],
    .seq (.reg false [
      ⟨(some 2), none, .mv (.k (.i .i64 (0))), 0⟩])
    (.seq (.reg false [
      ⟨(some 3), none, .mv (.t 0), 0⟩,
      ⟨(some 4), none, .call 0 (.k (.fn (.func 52) [] [])) [.t 3], 0⟩,
      ⟨(some 5), none, .fld 1 none (.t 4), 0⟩,
      ⟨(some 2), none, .mv (.t 5), 0⟩])
    (.cut [2] [] .ret))⟩

theorem ok80 : okFn Tryd.prog 2 Tryd.f80 a80 = true := by kernel_rfl

/-- slices.Contains[[]int,int] -/
def a81 : AFn := ⟨2, 9, [.t 4],
    .seq (.reg false [
      ⟨(some 4), none, .mv (.k (.b false)), 0⟩])
    (.seq (.reg false [
      ⟨(some 5), none, .mv (.t 0), 0⟩,
      ⟨(some 6), none, .mv (.t 1), 0⟩,
      ⟨(some 7), none, .call 0 (.k (.fn (.func 98) [] [])) [.t 5, .t 6], 0⟩,
      ⟨(some 8), none, .bin .geq (.t 7) (.k (.i .i64 (0))), 0⟩,
      ⟨(some 4), none, .mv (.t 8), 0⟩])
    (.cut [4] [] .ret))⟩

theorem ok81 : okFn Tryd.prog 2 Tryd.f81 a81 = true := by kernel_rfl

/-- phasor/pauli.images -/
def a82 : AFn := ⟨1, 25, [.t 2],
    .seq (.reg false [
      ⟨(some 2), none, .mv (.k (.sl none 0 (.ex 0))), 0⟩])
    (.seq (.reg false [
      ⟨(some 4), none, .bslice 9 1 2 [.s ⟨#[]⟩, .s ⟨#[]⟩] [(0, 1, .k (.s ⟨#[43, 88]⟩)), (1, 1, .k (.s ⟨#[43, 90]⟩))], 0⟩,
      ⟨(some 5), none, .bslice 9 1 2 [.s ⟨#[]⟩, .s ⟨#[]⟩] [(0, 1, .k (.s ⟨#[43, 88]⟩)), (1, 1, .k (.s ⟨#[45, 90]⟩))], 0⟩,
      ⟨(some 6), none, .bslice 9 1 2 [.s ⟨#[]⟩, .s ⟨#[]⟩] [(0, 1, .k (.s ⟨#[45, 88]⟩)), (1, 1, .k (.s ⟨#[45, 90]⟩))], 0⟩,
      ⟨(some 7), none, .bslice 9 1 2 [.s ⟨#[]⟩, .s ⟨#[]⟩] [(0, 1, .k (.s ⟨#[45, 88]⟩)), (1, 1, .k (.s ⟨#[43, 90]⟩))], 0⟩,
      ⟨(some 8), none, .bslice 9 1 2 [.s ⟨#[]⟩, .s ⟨#[]⟩] [(0, 1, .k (.s ⟨#[43, 89]⟩)), (1, 1, .k (.s ⟨#[43, 90]⟩))], 0⟩,
      ⟨(some 9), none, .bslice 9 1 2 [.s ⟨#[]⟩, .s ⟨#[]⟩] [(0, 1, .k (.s ⟨#[45, 89]⟩)), (1, 1, .k (.s ⟨#[43, 90]⟩))], 0⟩,
      ⟨(some 10), none, .bslice 9 1 2 [.s ⟨#[]⟩, .s ⟨#[]⟩] [(0, 1, .k (.s ⟨#[43, 88]⟩)), (1, 1, .k (.s ⟨#[45, 89]⟩))], 0⟩,
      ⟨(some 11), none, .bslice 9 1 2 [.s ⟨#[]⟩, .s ⟨#[]⟩] [(0, 1, .k (.s ⟨#[43, 88]⟩)), (1, 1, .k (.s ⟨#[43, 89]⟩))], 0⟩,
      ⟨(some 12), none, .bslice 9 1 2 [.s ⟨#[]⟩, .s ⟨#[]⟩] [(0, 1, .k (.s ⟨#[45, 90]⟩)), (1, 1, .k (.s ⟨#[43, 88]⟩))], 0⟩,
      ⟨(some 13), none, .bslice 9 1 2 [.s ⟨#[]⟩, .s ⟨#[]⟩] [(0, 1, .k (.s ⟨#[43, 90]⟩)), (1, 1, .k (.s ⟨#[45, 88]⟩))], 0⟩,
      ⟨(some 14), none, .bslice 9 1 4 [.s ⟨#[]⟩, .s ⟨#[]⟩, .s ⟨#[]⟩, .s ⟨#[]⟩] [(0, 1, .k (.s ⟨#[43, 88, 88]⟩)), (1, 1, .k (.s ⟨#[43, 90, 73]⟩)), (2, 1, .k (.s ⟨#[43, 73, 88]⟩)), (3, 1, .k (.s ⟨#[43, 90, 90]⟩))], 0⟩,
      ⟨(some 15), none, .bslice 9 1 4 [.s ⟨#[]⟩, .s ⟨#[]⟩, .s ⟨#[]⟩, .s ⟨#[]⟩] [(0, 1, .k (.s ⟨#[43, 88, 89]⟩)), (1, 1, .k (.s ⟨#[43, 90, 73]⟩)), (2, 1, .k (.s ⟨#[43, 90, 88]⟩)), (3, 1, .k (.s ⟨#[43, 90, 90]⟩))], 0⟩,
      ⟨(some 16), none, .bslice 9 1 4 [.s ⟨#[]⟩, .s ⟨#[]⟩, .s ⟨#[]⟩, .s ⟨#[]⟩] [(0, 1, .k (.s ⟨#[43, 88, 90]⟩)), (1, 1, .k (.s ⟨#[43, 90, 73]⟩)), (2, 1, .k (.s ⟨#[43, 90, 88]⟩)), (3, 1, .k (.s ⟨#[43, 73, 90]⟩))], 0⟩,
      ⟨(some 17), none, .bslice 9 1 4 [.s ⟨#[]⟩, .s ⟨#[]⟩, .s ⟨#[]⟩, .s ⟨#[]⟩] [(0, 1, .k (.s ⟨#[43, 73, 88]⟩)), (1, 1, .k (.s ⟨#[43, 73, 90]⟩)), (2, 1, .k (.s ⟨#[43, 88, 73]⟩)), (3, 1, .k (.s ⟨#[43, 90, 73]⟩))], 0⟩,
      ⟨(some 18), none, .bslice 9 1 4 [.s ⟨#[]⟩, .s ⟨#[]⟩, .s ⟨#[]⟩, .s ⟨#[]⟩] [(0, 1, .k (.s ⟨#[43, 90, 89]⟩)), (1, 1, .k (.s ⟨#[43, 73, 90]⟩)), (2, 1, .k (.s ⟨#[43, 89, 90]⟩)), (3, 1, .k (.s ⟨#[43, 90, 73]⟩))], 0⟩,
      ⟨(some 19), none, .bslice 9 1 4 [.s ⟨#[]⟩, .s ⟨#[]⟩, .s ⟨#[]⟩, .s ⟨#[]⟩] [(0, 1, .k (.s ⟨#[45, 90, 89]⟩)), (1, 1, .k (.s ⟨#[43, 73, 90]⟩)), (2, 1, .k (.s ⟨#[45, 89, 90]⟩)), (3, 1, .k (.s ⟨#[43, 90, 73]⟩))], 0⟩,
      ⟨(some 20), none, .bslice 9 1 4 [.s ⟨#[]⟩, .s ⟨#[]⟩, .s ⟨#[]⟩, .s ⟨#[]⟩] [(0, 1, .k (.s ⟨#[43, 90, 73]⟩)), (1, 1, .k (.s ⟨#[43, 88, 73]⟩)), (2, 1, .k (.s ⟨#[43, 73, 90]⟩)), (3, 1, .k (.s ⟨#[43, 73, 88]⟩))], 0⟩,
      ⟨(some 21), none, .build [.sl none 0 (.ex 0), .sl none 0 (.ex 0), .sl none 0 (.ex 0), .sl none 0 (.ex 0), .sl none 0 (.ex 0), .sl none 0 (.ex 0), .sl none 0 (.ex 0), .sl none 0 (.ex 0), .sl none 0 (.ex 0), .sl none 0 (.ex 0), .sl none 0 (.ex 0), .sl none 0 (.ex 0), .sl none 0 (.ex 0), .sl none 0 (.ex 0), .sl none 0 (.ex 0), .sl none 0 (.ex 0), .sl none 0 (.ex 0), .sl none 0 (.ex 0)] [(1, 1, .t 4), (2, 1, .t 5), (3, 1, .t 6), (4, 1, .t 7), (5, 1, .t 8), (6, 1, .t 9), (7, 1, .t 10), (8, 1, .t 11), (9, 1, .t 12), (10, 1, .t 13), (11, 1, .t 14), (12, 1, .t 15), (13, 1, .t 16), (14, 1, .t 17), (15, 1, .t 18), (16, 1, .t 19), (17, 1, .t 20)], 0⟩,
      ⟨(some 3), none, .alloc true 128 [.sl none 0 (.ex 0), .sl none 0 (.ex 0), .sl none 0 (.ex 0), .sl none 0 (.ex 0), .sl none 0 (.ex 0), .sl none 0 (.ex 0), .sl none 0 (.ex 0), .sl none 0 (.ex 0), .sl none 0 (.ex 0), .sl none 0 (.ex 0), .sl none 0 (.ex 0), .sl none 0 (.ex 0), .sl none 0 (.ex 0), .sl none 0 (.ex 0), .sl none 0 (.ex 0), .sl none 0 (.ex 0), .sl none 0 (.ex 0), .sl none 0 (.ex 0)], 0⟩,
      ⟨none, none, .store 18 (.t 3) (.t 21), 0⟩])
    (.seq (.reg false [
      ⟨(some 22), none, .mv (.t 0), 0⟩,
      ⟨(some 23), none, .iadra 1 18 (.t 3) (.t 22), 0⟩,
      ⟨(some 24), none, .load none (.t 23), 0⟩,
      ⟨(some 2), none, .mv (.t 24), 0⟩])
    (.cutg 2 [2] [] .ret)))⟩

theorem ok82 : okFn Tryd.prog 2 Tryd.f82 a82 = true := by kernel_rfl

def a83L0 : AC :=
    .cut [0, 6, 7, 17, 18, 19] [6, 7] (.seq (.reg false [
      ⟨(some 20), none, .bin .lss (.t 19) (.t 18), 0⟩])
    (.seq (.ite (.t 20) (.skip) (.cut [6, 7] [6, 7] (.exit 0)))
    (.cut [0, 6, 7, 17, 18, 19] [6, 7] (.seq (.blk 1 (.seq (.reg false [
      ⟨(some 21), none, .mv (.t 19), 0⟩,
      ⟨(some 22), none, .iadr 1 (.t 17) (.t 19), 0⟩,
      ⟨(some 23), none, .load none (.t 22), 0⟩,
      ⟨(some 8), none, .mv (.t 21), 0⟩,
      ⟨(some 9), none, .mv (.t 23), 0⟩])
    (.seq (.reg false [
      ⟨(some 24), none, .mv (.t 0), 0⟩,
      ⟨(some 25), none, .mv (.t 8), 0⟩,
      ⟨(some 26), none, .bin .add (.t 25) (.k (.i .i64 (1))), 0⟩,
      ⟨(some 27), none, .idxs (.t 24) (.t 26), 0⟩,
      ⟨(some 28), none, .call 0 (.k (.fn (.func 99) [] [])) [.k (.s ⟨#[73, 88, 89, 90]⟩), .t 27], 0⟩,
      ⟨(some 10), none, .mv (.t 28), 0⟩])
    (.seq (.seq (.reg false [
      ⟨(some 29), none, .mv (.t 10), 0⟩,
      ⟨(some 30), none, .bin .eql (.t 29) (.k (.i .i64 (1))), 0⟩,
      ⟨(some 31), none, .mv (.t 30), 0⟩,
      ⟨(some 32), (some (31, false)), .mv (.t 10), 0⟩,
      ⟨(some 33), (some (31, false)), .bin .eql (.t 32) (.k (.i .i64 (2))), 0⟩,
      ⟨(some 34), none, .pick (.t 31) (.k (.b true)) (.t 33), 0⟩])
    (.ite (.t 34) (.reg true [
      ⟨(some 35), none, .fadr 1 (.t 7), 0⟩,
      ⟨(some 36), none, .load none (.t 35), 1⟩,
      ⟨(some 37), none, .mv (.t 9), 0⟩,
      ⟨(some 38), none, .bin .shl (.k (.i .u64 (1))) (.t 37), 4⟩,
      ⟨(some 39), none, .bin .or (.t 36) (.t 38), 15⟩,
      ⟨(some 40), none, .fadr 1 (.t 7), 31⟩,
      ⟨none, none, .store 1 (.t 40) (.t 39), 63⟩]) (.skip)))
    (.cut [0, 6, 7, 9, 10, 17, 18, 19] [6, 7] (.seq (.reg false [
      ⟨(some 41), none, .mv (.t 10), 0⟩,
      ⟨(some 42), none, .bin .geq (.t 41) (.k (.i .i64 (2))), 0⟩])
    (.ite (.t 42) (.reg true [
      ⟨(some 43), none, .fadr 2 (.t 7), 0⟩,
      ⟨(some 44), none, .load none (.t 43), 1⟩,
      ⟨(some 45), none, .mv (.t 9), 0⟩,
      ⟨(some 46), none, .bin .shl (.k (.i .u64 (1))) (.t 45), 4⟩,
      ⟨(some 47), none, .bin .or (.t 44) (.t 46), 15⟩,
      ⟨(some 48), none, .fadr 2 (.t 7), 31⟩,
      ⟨none, none, .store 1 (.t 48) (.t 47), 63⟩]) (.skip))))))))
    (.cut [0, 6, 7, 17, 18, 19] [6, 7] (.reg false [
      ⟨(some 49), none, .bin .add (.t 19) (.k (.i .i64 (1))), 0⟩,
      ⟨(some 19), none, .mv (.t 49), 0⟩]))))))
/-- phasor/pauli.spread -/
def a83 : AFn := ⟨3, 51, [.cell 6 (some 4)],
    .seq (.reg false [
      ⟨(some 6), none, .alloc true 39 [.i .i64 (0), .i .u64 (0), .i .u64 (0), .i .i64 (0)], 0⟩])
    (.seq (.reg false [
      ⟨(some 11), none, .mv (.t 1), 0⟩,
      ⟨(some 12), none, .build [.i .i64 (0), .i .u64 (0), .i .u64 (0), .i .i64 (0)] [(0, 1, .t 11)], 0⟩,
      ⟨(some 7), none, .alloc true 39 [.i .i64 (0), .i .u64 (0), .i .u64 (0), .i .i64 (0)], 0⟩,
      ⟨none, none, .store 4 (.t 7) (.t 12), 0⟩])
    (.seq (.seq (.reg false [
      ⟨(some 13), none, .mv (.t 0), 0⟩,
      ⟨(some 14), none, .idxs (.t 13) (.k (.i .i64 (0))), 0⟩,
      ⟨(some 15), none, .bin .eql (.t 14) (.k (.i .u8 (45))), 0⟩])
    (.ite (.t 15) (.reg false [
      ⟨(some 16), none, .fadr 3 (.t 7), 0⟩,
      ⟨none, none, .store 1 (.t 16) (.k (.i .i64 (2))), 0⟩]) (.skip)))
    (.cut [0, 2, 6, 7] [6, 7] (.seq (.seq (.reg false [
      ⟨(some 17), none, .mv (.t 2), 0⟩,
      ⟨(some 18), none, .len false (.t 17), 0⟩,
      ⟨(some 19), none, .mv (.k (.i .i64 (0))), 0⟩])
    (.blk 0 (.loop a83L0)))
    (.cut [6, 7] [6, 7] (.seq (.reg false [
      ⟨(some 50), none, .load (some 4) (.t 7), 0⟩,
      ⟨none, none, .store 4 (.t 6) (.t 50), 0⟩])
    (.cut [6] [6] .ret)))))))⟩

theorem ok83 : okFn Tryd.prog 2 Tryd.f83 a83 = true := by kernel_rfl

/-- phasor/gate.table -/
def a84 : AFn := ⟨0, 22, [.cell 0 (some 84)],
    .seq (.reg false [
      ⟨(some 0), none, .alloc true 116 [.s ⟨#[]⟩, .i .i64 (0), .i .i64 (0), .i .i64 (0), .s ⟨#[]⟩, .i .i64 (0), .i .i64 (0), .i .i64 (0), .s ⟨#[]⟩, .i .i64 (0), .i .i64 (0), .i .i64 (0), .s ⟨#[]⟩, .i .i64 (0), .i .i64 (0), .i .i64 (0), .s ⟨#[]⟩, .i .i64 (0), .i .i64 (0), .i .i64 (0), .s ⟨#[]⟩, .i .i64 (0), .i .i64 (0), .i .i64 (0), .s ⟨#[]⟩, .i .i64 (0), .i .i64 (0), .i .i64 (0), .s ⟨#[]⟩, .i .i64 (0), .i .i64 (0), .i .i64 (0), .s ⟨#[]⟩, .i .i64 (0), .i .i64 (0), .i .i64 (0), .s ⟨#[]⟩, .i .i64 (0), .i .i64 (0), .i .i64 (0), .s ⟨#[]⟩, .i .i64 (0), .i .i64 (0), .i .i64 (0), .s ⟨#[]⟩, .i .i64 (0), .i .i64 (0), .i .i64 (0), .s ⟨#[]⟩, .i .i64 (0), .i .i64 (0), .i .i64 (0), .s ⟨#[]⟩, .i .i64 (0), .i .i64 (0), .i .i64 (0), .s ⟨#[]⟩, .i .i64 (0), .i .i64 (0), .i .i64 (0), .s ⟨#[]⟩, .i .i64 (0), .i .i64 (0), .i .i64 (0), .s ⟨#[]⟩, .i .i64 (0), .i .i64 (0), .i .i64 (0), .s ⟨#[]⟩, .i .i64 (0), .i .i64 (0), .i .i64 (0), .s ⟨#[]⟩, .i .i64 (0), .i .i64 (0), .i .i64 (0), .s ⟨#[]⟩, .i .i64 (0), .i .i64 (0), .i .i64 (0), .s ⟨#[]⟩, .i .i64 (0), .i .i64 (0), .i .i64 (0)], 0⟩])
    (.seq (.reg false [
      ⟨(some 1), none, .build [.s ⟨#[]⟩, .i .i64 (0), .i .i64 (0), .i .i64 (0)] [(0, 1, .k (.s ⟨#[105, 100]⟩)), (1, 1, .k (.i .i64 (1))), (2, 1, .k (.i .i64 (0))), (3, 1, .k (.i .i64 (1)))], 0⟩,
      ⟨(some 2), none, .build [.s ⟨#[]⟩, .i .i64 (0), .i .i64 (0), .i .i64 (0)] [(0, 1, .k (.s ⟨#[120]⟩)), (1, 1, .k (.i .i64 (1))), (2, 1, .k (.i .i64 (0))), (3, 1, .k (.i .i64 (2)))], 0⟩,
      ⟨(some 3), none, .build [.s ⟨#[]⟩, .i .i64 (0), .i .i64 (0), .i .i64 (0)] [(0, 1, .k (.s ⟨#[121]⟩)), (1, 1, .k (.i .i64 (1))), (2, 1, .k (.i .i64 (0))), (3, 1, .k (.i .i64 (3)))], 0⟩,
      ⟨(some 4), none, .build [.s ⟨#[]⟩, .i .i64 (0), .i .i64 (0), .i .i64 (0)] [(0, 1, .k (.s ⟨#[122]⟩)), (1, 1, .k (.i .i64 (1))), (2, 1, .k (.i .i64 (0))), (3, 1, .k (.i .i64 (4)))], 0⟩,
      ⟨(some 5), none, .build [.s ⟨#[]⟩, .i .i64 (0), .i .i64 (0), .i .i64 (0)] [(0, 1, .k (.s ⟨#[115]⟩)), (1, 1, .k (.i .i64 (1))), (2, 1, .k (.i .i64 (0))), (3, 1, .k (.i .i64 (6)))], 0⟩,
      ⟨(some 6), none, .build [.s ⟨#[]⟩, .i .i64 (0), .i .i64 (0), .i .i64 (0)] [(0, 1, .k (.s ⟨#[115, 100, 103]⟩)), (1, 1, .k (.i .i64 (1))), (2, 1, .k (.i .i64 (0))), (3, 1, .k (.i .i64 (5)))], 0⟩,
      ⟨(some 7), none, .build [.s ⟨#[]⟩, .i .i64 (0), .i .i64 (0), .i .i64 (0)] [(0, 1, .k (.s ⟨#[115, 120]⟩)), (1, 1, .k (.i .i64 (1))), (2, 1, .k (.i .i64 (0))), (3, 1, .k (.i .i64 (8)))], 0⟩,
      ⟨(some 8), none, .build [.s ⟨#[]⟩, .i .i64 (0), .i .i64 (0), .i .i64 (0)] [(0, 1, .k (.s ⟨#[115, 120, 100, 103]⟩)), (1, 1, .k (.i .i64 (1))), (2, 1, .k (.i .i64 (0))), (3, 1, .k (.i .i64 (7)))], 0⟩,
      ⟨(some 9), none, .build [.s ⟨#[]⟩, .i .i64 (0), .i .i64 (0), .i .i64 (0)] [(0, 1, .k (.s ⟨#[115, 121]⟩)), (1, 1, .k (.i .i64 (1))), (2, 1, .k (.i .i64 (0))), (3, 1, .k (.i .i64 (10)))], 0⟩,
      ⟨(some 10), none, .build [.s ⟨#[]⟩, .i .i64 (0), .i .i64 (0), .i .i64 (0)] [(0, 1, .k (.s ⟨#[115, 121, 100, 103]⟩)), (1, 1, .k (.i .i64 (1))), (2, 1, .k (.i .i64 (0))), (3, 1, .k (.i .i64 (9)))], 0⟩,
      ⟨(some 11), none, .build [.s ⟨#[]⟩, .i .i64 (0), .i .i64 (0), .i .i64 (0)] [(0, 1, .k (.s ⟨#[99, 120]⟩)), (1, 1, .k (.i .i64 (2))), (2, 1, .k (.i .i64 (1))), (3, 1, .k (.i .i64 (11)))], 0⟩,
      ⟨(some 12), none, .build [.s ⟨#[]⟩, .i .i64 (0), .i .i64 (0), .i .i64 (0)] [(0, 1, .k (.s ⟨#[99, 121]⟩)), (1, 1, .k (.i .i64 (2))), (2, 1, .k (.i .i64 (1))), (3, 1, .k (.i .i64 (12)))], 0⟩,
      ⟨(some 13), none, .build [.s ⟨#[]⟩, .i .i64 (0), .i .i64 (0), .i .i64 (0)] [(0, 1, .k (.s ⟨#[99, 122]⟩)), (1, 1, .k (.i .i64 (2))), (2, 1, .k (.i .i64 (0))), (3, 1, .k (.i .i64 (13)))], 0⟩,
      ⟨(some 14), none, .build [.s ⟨#[]⟩, .i .i64 (0), .i .i64 (0), .i .i64 (0)] [(0, 1, .k (.s ⟨#[115, 119, 97, 112]⟩)), (1, 1, .k (.i .i64 (2))), (2, 1, .k (.i .i64 (0))), (3, 1, .k (.i .i64 (14)))], 0⟩,
      ⟨(some 15), none, .build [.s ⟨#[]⟩, .i .i64 (0), .i .i64 (0), .i .i64 (0)] [(0, 1, .k (.s ⟨#[105, 115, 119, 97, 112]⟩)), (1, 1, .k (.i .i64 (2))), (2, 1, .k (.i .i64 (0))), (3, 1, .k (.i .i64 (16)))], 0⟩,
      ⟨(some 16), none, .build [.s ⟨#[]⟩, .i .i64 (0), .i .i64 (0), .i .i64 (0)] [(0, 1, .k (.s ⟨#[105, 115, 119, 97, 112, 100, 103]⟩)), (1, 1, .k (.i .i64 (2))), (2, 1, .k (.i .i64 (0))), (3, 1, .k (.i .i64 (15)))], 0⟩,
      ⟨(some 17), none, .build [.s ⟨#[]⟩, .i .i64 (0), .i .i64 (0), .i .i64 (0)] [(0, 1, .k (.s ⟨#[104, 104]⟩)), (1, 1, .k (.i .i64 (2))), (2, 1, .k (.i .i64 (0))), (3, 1, .k (.i .i64 (17)))], 0⟩,
      ⟨(some 18), none, .build [.s ⟨#[]⟩, .i .i64 (0), .i .i64 (0), .i .i64 (0)] [(0, 1, .k (.s ⟨#[99, 99, 120]⟩)), (1, 1, .k (.i .i64 (3))), (2, 1, .k (.i .i64 (2))), (3, 1, .k (.i .i64 (18)))], 0⟩,
      ⟨(some 19), none, .build [.s ⟨#[]⟩, .i .i64 (0), .i .i64 (0), .i .i64 (0)] [(0, 1, .k (.s ⟨#[99, 99, 122]⟩)), (1, 1, .k (.i .i64 (3))), (2, 1, .k (.i .i64 (0))), (3, 1, .k (.i .i64 (19)))], 0⟩,
      ⟨(some 20), none, .build [.s ⟨#[]⟩, .i .i64 (0), .i .i64 (0), .i .i64 (0)] [(0, 1, .k (.s ⟨#[99, 115, 119, 97, 112]⟩)), (1, 1, .k (.i .i64 (3))), (2, 1, .k (.i .i64 (1))), (3, 1, .k (.i .i64 (20)))], 0⟩,
      ⟨(some 21), none, .build [.s ⟨#[]⟩, .i .i64 (0), .i .i64 (0), .i .i64 (0), .s ⟨#[]⟩, .i .i64 (0), .i .i64 (0), .i .i64 (0), .s ⟨#[]⟩, .i .i64 (0), .i .i64 (0), .i .i64 (0), .s ⟨#[]⟩, .i .i64 (0), .i .i64 (0), .i .i64 (0), .s ⟨#[]⟩, .i .i64 (0), .i .i64 (0), .i .i64 (0), .s ⟨#[]⟩, .i .i64 (0), .i .i64 (0), .i .i64 (0), .s ⟨#[]⟩, .i .i64 (0), .i .i64 (0), .i .i64 (0), .s ⟨#[]⟩, .i .i64 (0), .i .i64 (0), .i .i64 (0), .s ⟨#[]⟩, .i .i64 (0), .i .i64 (0), .i .i64 (0), .s ⟨#[]⟩, .i .i64 (0), .i .i64 (0), .i .i64 (0), .s ⟨#[]⟩, .i .i64 (0), .i .i64 (0), .i .i64 (0), .s ⟨#[]⟩, .i .i64 (0), .i .i64 (0), .i .i64 (0), .s ⟨#[]⟩, .i .i64 (0), .i .i64 (0), .i .i64 (0), .s ⟨#[]⟩, .i .i64 (0), .i .i64 (0), .i .i64 (0), .s ⟨#[]⟩, .i .i64 (0), .i .i64 (0), .i .i64 (0), .s ⟨#[]⟩, .i .i64 (0), .i .i64 (0), .i .i64 (0), .s ⟨#[]⟩, .i .i64 (0), .i .i64 (0), .i .i64 (0), .s ⟨#[]⟩, .i .i64 (0), .i .i64 (0), .i .i64 (0), .s ⟨#[]⟩, .i .i64 (0), .i .i64 (0), .i .i64 (0), .s ⟨#[]⟩, .i .i64 (0), .i .i64 (0), .i .i64 (0), .s ⟨#[]⟩, .i .i64 (0), .i .i64 (0), .i .i64 (0)] [(4, 4, .t 1), (8, 4, .t 2), (12, 4, .t 3), (16, 4, .t 4), (20, 4, .t 5), (24, 4, .t 6), (28, 4, .t 7), (32, 4, .t 8), (36, 4, .t 9), (40, 4, .t 10), (44, 4, .t 11), (48, 4, .t 12), (52, 4, .t 13), (56, 4, .t 14), (60, 4, .t 15), (64, 4, .t 16), (68, 4, .t 17), (72, 4, .t 18), (76, 4, .t 19), (80, 4, .t 20)], 0⟩,
      ⟨none, none, .store 84 (.t 0) (.t 21), 0⟩])
    (.cut [0] [0] .ret))⟩

theorem ok84 : okFn Tryd.prog 2 Tryd.f84 a84 = true := by kernel_rfl

/-- phasor/tableau.column -/
def a85 : AFn := ⟨2, 22, [.t 4],
    .seq (.reg false [
      ⟨(some 2), none, .box true 39 (.t 0), 0⟩,
      ⟨(some 4), none, .mv (.k (.i .u64 (0))), 0⟩])
    (.seq (.seq (.reg false [
      ⟨(some 5), none, .mv (.t 1), 0⟩,
      ⟨(some 6), none, .fadr 0 (.t 2), 0⟩,
      ⟨(some 7), none, .load none (.t 6), 0⟩,
      ⟨(some 8), none, .bin .lss (.t 5) (.t 7), 0⟩])
    (.ite (.t 8) (.seq (.reg false [
      ⟨(some 9), none, .fadr 1 (.t 2), 0⟩,
      ⟨(some 10), none, .load none (.t 9), 0⟩,
      ⟨(some 11), none, .mv (.t 1), 0⟩,
      ⟨(some 12), none, .bin .shr (.t 10) (.t 11), 0⟩,
      ⟨(some 13), none, .bin .and (.t 12) (.k (.i .u64 (1))), 0⟩,
      ⟨(some 4), none, .mv (.t 13), 0⟩])
    (.cut [4] [] .ret)) (.skip)))
    (.cut [1, 2] [2] (.seq (.reg false [
      ⟨(some 14), none, .fadr 2 (.t 2), 0⟩,
      ⟨(some 15), none, .load none (.t 14), 0⟩,
      ⟨(some 16), none, .mv (.t 1), 0⟩,
      ⟨(some 17), none, .fadr 0 (.t 2), 0⟩,
      ⟨(some 18), none, .load none (.t 17), 0⟩,
      ⟨(some 19), none, .bin .sub (.t 16) (.t 18), 0⟩,
      ⟨(some 20), none, .bin .shr (.t 15) (.t 19), 0⟩,
      ⟨(some 21), none, .bin .and (.t 20) (.k (.i .u64 (1))), 0⟩,
      ⟨(some 4), none, .mv (.t 21), 0⟩])
    (.cut [4] [] .ret))))⟩

theorem ok85 : okFn Tryd.prog 2 Tryd.f85 a85 = true := by kernel_rfl

/-- phasor/tableau.mul -/
def a86 : AFn := ⟨2, 14, [.cell 4 (some 4)],
    .seq (.reg false [
      ⟨(some 2), none, .box true 39 (.t 0), 0⟩,
      ⟨(some 3), none, .box true 39 (.t 1), 0⟩,
      ⟨(some 4), none, .alloc true 39 [.i .i64 (0), .i .u64 (0), .i .u64 (0), .i .i64 (0)], 0⟩])
    (.seq (.reg false [
      ⟨(some 8), none, .load (some 4) (.t 2), 0⟩,
      ⟨(some 9), none, .load (some 4) (.t 3), 0⟩,
      ⟨(some 10), none, .call 0 (.k (.fn (.func 18) [] [])) [.t 8, .t 9], 0⟩,
      ⟨(some 7), none, .mv (.t 10), 0⟩,
      ⟨(some 11), none, .ext (.t 7) 0, 0⟩,
      ⟨(some 12), none, .ext (.t 7) 1, 0⟩,
      ⟨(some 5), none, .alloc true 39 [.i .i64 (0), .i .u64 (0), .i .u64 (0), .i .i64 (0)], 0⟩,
      ⟨none, none, .store 4 (.t 5) (.t 11), 0⟩,
      ⟨(some 6), none, .mv (.t 12), 0⟩])
    (.seq (.reg false [
      ⟨(some 13), none, .load (some 4) (.t 5), 0⟩,
      ⟨none, none, .store 4 (.t 4) (.t 13), 0⟩])
    (.cut [4] [4] .ret)))⟩

theorem ok86 : okFn Tryd.prog 2 Tryd.f86 a86 = true := by kernel_rfl

/-- phasor/tableau.open$1 -/
def a87 : AFn := ⟨2, 10, [.t 3],
    .seq (.reg false [
      ⟨(some 2), none, .box true 39 (.t 0), 0⟩,
      ⟨(some 3), none, .mv (.k (.b false)), 0⟩])
    (.seq (.reg false [
      ⟨(some 4), none, .fadr 1 (.t 2), 0⟩,
      ⟨(some 5), none, .load none (.t 4), 0⟩,
      ⟨(some 6), none, .load none (.t 1), 0⟩,
      ⟨(some 7), none, .bin .shr (.t 5) (.t 6), 0⟩,
      ⟨(some 8), none, .bin .and (.t 7) (.k (.i .u64 (1))), 0⟩,
      ⟨(some 9), none, .bin .eql (.t 8) (.k (.i .u64 (1))), 0⟩,
      ⟨(some 3), none, .mv (.t 9), 0⟩])
    (.cut [3] [] .ret))⟩

theorem ok87 : okFn Tryd.prog 2 Tryd.f87 a87 = true := by kernel_rfl

def a88L0 : AC :=
    .cut [0, 1, 2, 3, 7, 8, 9] [] (.seq (.reg false [
      ⟨(some 10), none, .bin .lss (.t 9) (.t 8), 0⟩])
    (.seq (.ite (.t 10) (.skip) (.cut [] [] (.exit 0)))
    (.cut [0, 1, 2, 3, 7, 8, 9] [] (.seq (.blk 1 (.seq (.reg false [
      ⟨(some 11), none, .mv (.t 9), 0⟩,
      ⟨(some 12), none, .iadr 4 (.t 7) (.t 9), 0⟩,
      ⟨(some 13), none, .load (some 4) (.t 12), 0⟩,
      ⟨(some 6), none, .alloc true 39 [.i .i64 (0), .i .u64 (0), .i .u64 (0), .i .i64 (0)], 0⟩,
      ⟨(some 5), none, .mv (.t 11), 0⟩,
      ⟨none, none, .store 4 (.t 6) (.t 13), 0⟩])
    (.seq (.reg false [
      ⟨(some 14), none, .mv (.t 5), 0⟩,
      ⟨(some 15), none, .load none (.t 1), 0⟩,
      ⟨(some 16), none, .bin .neq (.t 14) (.t 15), 0⟩,
      ⟨(some 17), none, .mv (.t 16), 0⟩,
      ⟨(some 18), (some (17, true)), .load (some 4) (.t 6), 0⟩,
      ⟨(some 19), (some (17, true)), .load (some 4) (.t 2), 0⟩,
      ⟨(some 20), (some (17, true)), .call 0 (.k (.fn (.func 40) [] [])) [.t 18, .t 19], 0⟩,
      ⟨(some 21), (some (17, true)), .un .not (.t 20), 0⟩,
      ⟨(some 22), none, .pick (.t 17) (.t 21) (.k (.b false)), 0⟩])
    (.ite (.t 22) (.reg true [
      ⟨(some 23), none, .mv (.t 0), 0⟩,
      ⟨(some 24), none, .mv (.t 5), 0⟩,
      ⟨(some 25), none, .load (some 4) (.t 6), 0⟩,
      ⟨(some 26), none, .fadr 1 (.t 3), 0⟩,
      ⟨(some 27), none, .load none (.t 26), 8⟩,
      ⟨(some 28), none, .load none (.t 1), 0⟩,
      ⟨(some 29), none, .iadr 4 (.t 27) (.t 28), 56⟩,
      ⟨(some 30), none, .load (some 4) (.t 29), 120⟩,
      ⟨(some 31), none, .call 0 (.k (.fn (.func 86) [] [])) [.t 25, .t 30], 252⟩,
      ⟨(some 32), none, .iadr 4 (.t 23) (.t 24), 511⟩,
      ⟨none, none, .store 4 (.t 32) (.t 31), 1023⟩]) (.skip)))))
    (.cut [0, 1, 2, 3, 7, 8, 9] [] (.reg false [
      ⟨(some 33), none, .bin .add (.t 9) (.k (.i .i64 (1))), 0⟩,
      ⟨(some 9), none, .mv (.t 33), 0⟩]))))))
/-- phasor/tableau.replaced$1 -/
def a88 : AFn := ⟨4, 34, [],
    .seq (.reg false [
      ⟨(some 7), none, .mv (.t 0), 0⟩,
      ⟨(some 8), none, .len false (.t 7), 0⟩,
      ⟨(some 9), none, .mv (.k (.i .i64 (0))), 0⟩])
    (.blk 0 (.loop a88L0))⟩

theorem ok88 : okFn Tryd.prog 2 Tryd.f88 a88 = true := by kernel_rfl

/-- phasor/pauli.Check -/
def a97 : AFn := ⟨1, 37, [.t 2],
    .seq (.reg false [
      ⟨(some 1), none, .box true 39 (.t 0), 0⟩,
      ⟨(some 2), none, .mv (.k (.i .i64 (0))), 0⟩])
    (.seq (.seq (.reg false [
      ⟨(some 3), none, .fadr 0 (.t 1), 0⟩,
      ⟨(some 4), none, .load none (.t 3), 0⟩,
      ⟨(some 5), none, .bin .lss (.t 4) (.k (.i .i64 (0))), 0⟩,
      ⟨(some 6), none, .mv (.t 5), 0⟩,
      ⟨(some 7), (some (6, false)), .fadr 0 (.t 1), 0⟩,
      ⟨(some 8), (some (6, false)), .load none (.t 7), 0⟩,
      ⟨(some 9), (some (6, false)), .bin .gtr (.t 8) (.k (.i .i64 (64))), 0⟩,
      ⟨(some 10), none, .pick (.t 6) (.k (.b true)) (.t 9), 0⟩,
      ⟨(some 11), none, .mv (.t 10), 0⟩,
      ⟨(some 12), (some (11, false)), .fadr 3 (.t 1), 0⟩,
      ⟨(some 13), (some (11, false)), .load none (.t 12), 0⟩,
      ⟨(some 14), (some (11, false)), .bin .lss (.t 13) (.k (.i .i64 (0))), 0⟩,
      ⟨(some 15), none, .pick (.t 11) (.k (.b true)) (.t 14), 0⟩,
      ⟨(some 16), none, .mv (.t 15), 0⟩,
      ⟨(some 17), (some (16, false)), .fadr 3 (.t 1), 0⟩,
      ⟨(some 18), (some (16, false)), .load none (.t 17), 0⟩,
      ⟨(some 19), (some (16, false)), .bin .gtr (.t 18) (.k (.i .i64 (3))), 0⟩,
      ⟨(some 20), none, .pick (.t 16) (.k (.b true)) (.t 19), 0⟩,
      ⟨(some 21), none, .mv (.t 20), 0⟩,
      ⟨(some 22), (some (21, false)), .fadr 0 (.t 1), 0⟩,
      ⟨(some 23), (some (21, false)), .load none (.t 22), 0⟩,
      ⟨(some 24), (some (21, false)), .bin .lss (.t 23) (.k (.i .i64 (64))), 0⟩,
      ⟨(some 25), (some (21, false)), .mv (.t 24), 0⟩,
      ⟨(some 26), (some (25, true)), .fadr 1 (.t 1), 0⟩,
      ⟨(some 27), (some (25, true)), .load none (.t 26), 0⟩,
      ⟨(some 28), (some (25, true)), .fadr 2 (.t 1), 0⟩,
      ⟨(some 29), (some (25, true)), .load none (.t 28), 0⟩,
      ⟨(some 30), (some (25, true)), .bin .or (.t 27) (.t 29), 0⟩,
      ⟨(some 31), (some (25, true)), .fadr 0 (.t 1), 0⟩,
      ⟨(some 32), (some (25, true)), .load none (.t 31), 0⟩,
      ⟨(some 33), (some (25, true)), .bin .shr (.t 30) (.t 32), 0⟩,
      ⟨(some 34), (some (25, true)), .bin .neq (.t 33) (.k (.i .u64 (0))), 0⟩,
      ⟨(some 35), (some (21, false)), .pick (.t 25) (.t 34) (.k (.b false)), 0⟩,
      ⟨(some 36), none, .pick (.t 21) (.k (.b true)) (.t 35), 0⟩])
    (.ite (.t 36) (.seq (.reg false [
      ⟨(some 2), none, .mv (.k (.i .i64 (130))), 0⟩])
    (.cut [2] [] .ret)) (.skip)))
    (.cut [] [] (.seq (.reg false [
      ⟨(some 2), none, .mv (.k (.i .i64 (0))), 0⟩])
    (.cut [2] [] .ret))))⟩

theorem ok97 : okFn Tryd.prog 2 Tryd.f97 a97 = true := by kernel_rfl

def a98L0 : AC :=
    .cut [0, 1, 7, 8] [] (.seq (.reg false [
      ⟨(some 9), none, .bin .lss (.t 8) (.t 7), 0⟩])
    (.seq (.ite (.t 9) (.skip) (.cut [] [] (.exit 0)))
    (.cut [0, 1, 7, 8] [] (.seq (.blk 1 (.seq (.reg false [
      ⟨(some 10), none, .mv (.t 8), 0⟩,
      ⟨(some 5), none, .mv (.t 10), 0⟩])
    (.seq (.reg false [
      ⟨(some 11), none, .mv (.t 1), 0⟩,
      ⟨(some 12), none, .mv (.t 0), 0⟩,
      ⟨(some 13), none, .mv (.t 5), 0⟩,
      ⟨(some 14), none, .iadr 1 (.t 12) (.t 13), 0⟩,
      ⟨(some 15), none, .load none (.t 14), 0⟩,
      ⟨(some 16), none, .bin .eql (.t 11) (.t 15), 0⟩])
    (.ite (.t 16) (.seq (.reg false [
      ⟨(some 17), none, .mv (.t 5), 0⟩,
      ⟨(some 4), none, .mv (.t 17), 0⟩])
    (.cut [4] [] .ret)) (.skip)))))
    (.cut [0, 1, 7, 8] [] (.reg false [
      ⟨(some 18), none, .bin .add (.t 8) (.k (.i .i64 (1))), 0⟩,
      ⟨(some 8), none, .mv (.t 18), 0⟩]))))))
/-- slices.Index[[]int,int] -/
def a98 : AFn := ⟨2, 19, [.t 4],
    .seq (.reg false [
      ⟨(some 4), none, .mv (.k (.i .i64 (0))), 0⟩])
    (.seq (.seq (.reg false [
      ⟨(some 6), none, .mv (.t 0), 0⟩,
      ⟨(some 7), none, .len false (.t 6), 0⟩,
      ⟨(some 8), none, .mv (.k (.i .i64 (0))), 0⟩])
    (.blk 0 (.loop a98L0)))
    (.cut [] [] (.seq (.reg false [
      ⟨(some 4), none, .mv (.k (.i .i64 (-1))), 0⟩])
    (.cut [4] [] .ret))))⟩

theorem ok98 : okFn Tryd.prog 2 Tryd.f98 a98 = true := by kernel_rfl

/-- strings.IndexByte -/
def a99 : AFn := ⟨2, 8, [.t 4],
    .seq (.reg false [
      ⟨(some 4), none, .mv (.k (.i .i64 (0))), 0⟩])
    (.seq (.reg false [
      ⟨(some 5), none, .mv (.t 0), 0⟩,
      ⟨(some 6), none, .mv (.t 1), 0⟩,
      ⟨(some 7), none, .call 0 (.k (.fn (.func 107) [] [])) [.t 5, .t 6], 0⟩,
      ⟨(some 4), none, .mv (.t 7), 0⟩])
    (.cut [4] [] .ret))⟩

theorem ok99 : okFn Tryd.prog 2 Tryd.f99 a99 = true := by kernel_rfl


end Go.Proofs.YtogkkamlmklpkaaDoor.Ab
