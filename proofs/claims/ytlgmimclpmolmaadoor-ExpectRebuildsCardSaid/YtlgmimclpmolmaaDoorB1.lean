/- The functions,for the abstract machine. Written by gen.py. No condition. -/
import Derived.Test.YtlgmimclpmolmaaDoorAC
import Derived.Test.YtlgmimclpmolmaaDoorProg
set_option linter.unusedVariables false
set_option maxRecDepth 100000
namespace Go.Proofs.YtlgmimclpmolmaaDoor.Ab
open Go
def oM (d x m : Nat) : AOper := ⟨some d, none, .mv (.t x), m⟩
def oL (d x m : Nat) : AOper := ⟨some d, none, .load none (.t x), m⟩
def oJ (d t x m : Nat) : AOper := ⟨some d, none, .load (some t) (.t x), m⟩
def oF (d i x m : Nat) : AOper := ⟨some d, none, .fadr i (.t x), m⟩
def oS (t x y m : Nat) : AOper := ⟨none, none, .store t (.t x) (.t y), m⟩
def oA (d t x y m : Nat) : AOper := ⟨some d, none, .iadr t (.t x) (.t y), m⟩
def oP (d x y m : Nat) : AOper := ⟨some d, none, .pick (.t x) (.k (.b true)) (.t y), m⟩
def oE (d x i m : Nat) : AOper := ⟨some d, none, .ext (.t x) i, m⟩
def oB (d t x m : Nat) : AOper := ⟨some d, none, .box true t (.t x), m⟩
def oQ (d x y m : Nat) : AOper := ⟨some d, none, .pick (.t x) (.t y) (.k (.b false)), m⟩
def oN (d x m : Nat) : AOper := ⟨some d, none, .un .not (.t x), m⟩
def oT (d m : Nat) : AOper := ⟨some d, none, .mv (.k (.b true)), m⟩
def oU (d m : Nat) : AOper := ⟨some d, none, .mv (.k (.b false)), m⟩
def oG (d x m : Nat) : AOper := ⟨some d, none, .len false (.t x), m⟩
def oI (d m : Nat) (z : Int) : AOper := ⟨some d, none, .mv (.k (.i .i64 z)), m⟩
def oC (d g f : Nat) (l : List AX) (m : Nat) : AOper := ⟨some d, none, .call g (.k (.fn (.func f) [] [])) l, m⟩
def oX (d : Nat) (o : BinOp) (x y m : Nat) : AOper := ⟨some d, none, .bin o (.t x) (.t y), m⟩
def oY (d : Nat) (o : BinOp) (x m : Nat) (z : Int) : AOper := ⟨some d, none, .bin o (.t x) (.k (.i .i64 z)), m⟩
def gf (g : Nat) : AOper → AOper | ⟨d, _, o, m⟩ => ⟨d, some (g, false), o, m⟩
def gt (g : Nat) : AOper → AOper | ⟨d, _, o, m⟩ => ⟨d, some (g, true), o, m⟩
def a3 : AFn := ⟨1,72,[.t 2],
    .seq (.reg false [oU 2 0])
 (.seq (.reg false [⟨some 12,none,.bslice 34 1 0 [] [],0⟩,oM 13 0 0,⟨some 14,none,.app 34 1 8 (.t 12) (.t 13),0⟩,oM 3 14 0])
 (.seq (.reg false [oM 16 3 0,oC 17 0 4 [.t 16] 0,oM 15 17 0,oE 18 15 0 0,oE 19 15 1 0,⟨some 4,none,.alloc true 25 [.i .i64 0,.sl none 0 (.ex 0)],0⟩,oS 2 4 18 0,oM 5 19 0])
 (.seq (.reg false [oM 21 0 0,oC 22 0 5 [.t 21] 0,oM 20 22 0,oE 23 20 0 0,oE 24 20 1 0,⟨some 6,none,.alloc true 31 [.i .i64 0,.sl none 0 (.ex 0)],0⟩,oS 2 6 23 0,oM 7 24 0])
 (.seq (.reg false [oM 26 3 0,oC 27 0 6 [.t 26] 0,oM 25 27 0,oE 28 25 0 0,oE 29 25 1 0,oM 8 28 0,oM 9 29 0])
 (.seq (.reg false [oM 31 0 0,oC 32 0 7 [.t 31] 0,oM 30 32 0,oE 33 30 0 0,oE 34 30 1 0,oM 10 33 0,oM 11 34 0])
 (.seq (.reg false [oM 35 5 0,oC 36 0 8 [.t 35] 0,oM 37 7 0,oX 38 .eql 36 37 0,oM 39 38 0,gt 39 (oF 40 0 4 0),gt 39 (oL 41 40 0),gt 39 (oF 42 0 6 0),gt 39 (oL 43 42 0),gt 39 (oX 44 .eql 41 43 0),oQ 45 39 44 0,oM 46 45 0,gt 46 (oF 47 1 4 0),gt 46 (oL 48 47 0),gt 46 (oF 49 1 6 0),gt 46 (oL 50 49 0),gt 46 (oC 51 0 9 [.t 48,.t 50] 0),oQ 52 46 51 0,oM 53 52 0,gt 53 (oM 54 8 0),gt 53 (oM 55 10 0),gt 53 (oC 56 0 10 [.t 54,.t 55] 0),oQ 57 53 56 0,oM 58 57 0,gt 58 (oM 59 9 0),gt 58 (oC 60 0 8 [.t 59] 0),gt 58 (oM 61 11 0),gt 58 (oX 62 .eql 60 61 0),oQ 63 58 62 0,oM 64 63 0,gt 64 (oM 65 3 0),gt 64 (oM 66 0 0),gt 64 (oC 67 0 11 [.t 65,.t 66] 0),oQ 68 64 67 0,oM 69 68 0,gt 69 (oC 70 0 12 [] 0),oQ 71 69 70 0,oM 2 71 0])
 (.cutg 3 [2] [] .ret)))))))⟩
theorem ok3 : okFn Tryd.prog 3 Tryd.f3 a3 = true := by kernel_rfl
def a4L0 : AC := .cutg 3 [0,2,4,5,6,7,8,9,10,11,24,25,28,29,35,36] [2,7] (.seq (.reg false [oX 37 .lss 36 35 0])
 (.seq (.ite (.t 37) (.skip) (.cutg 3 [0,2,4,5,6,7,8,11,24,25,28,29] [2,7] (.exit 4)))
 (.cutg 3 [0,2,4,5,6,7,8,9,10,11,24,25,28,29,35,36] [2,7] (.seq (.blk 5 (.seq (.reg false [oM 38 36 0,oM 12 38 0])
 (.reg true [oM 39 11 0,oM 40 0 0,oM 41 10 0,oM 42 5 0,oM 43 12 0,oX 44 .mul 42 43 24,oX 45 .add 41 44 60,oA 46 1 40 45 126,oL 47 46 254,⟨some 48,none,.pop .mk [.t 47,.k (.f .f64 0)],510⟩,oM 49 6 0,oM 50 10 0,oM 51 12 0,⟨some 52,none,.call 0 (.t 49) [.t 50,.t 51],7168⟩,oM 53 6 0,oM 54 9 0,oM 55 12 0,⟨some 56,none,.call 0 (.t 53) [.t 54,.t 55],130048⟩,⟨some 57,none,.bin .mul (.k (.i .i64 2)) (.t 56),261120⟩,oX 58 .add 52 57 523264,oC 59 0 16 [.t 48,.t 58] 1048574,⟨some 60,none,.bslice 49 1 1 [.c .f64 0 0] [(0,1,.t 59)],2097150⟩,⟨some 61,none,.app 49 1 16 (.t 39) (.t 60),4194303⟩,oM 11 61 8388607])))
 (.cutg 3 [0,2,4,5,6,7,8,9,10,11,24,25,28,29,35,36] [2,7] (.reg false [oY 62 .add 36 0 1,oM 36 62 0]))))))
def a4L1 : AC := .cutg 3 [0,2,4,5,6,7,8,24,25,28,29] [2,7] (.seq (.reg false [oX 30 .lss 29 28 0])
 (.seq (.ite (.t 30) (.skip) (.cutg 3 [0,2,4,5,6,7,24,25] [2,7] (.exit 2)))
 (.cutg 3 [0,2,4,5,6,7,8,24,25,28,29] [2,7] (.seq (.blk 3 (.seq (.reg false [oM 31 29 0,oM 9 31 0])
 (.seq (.reg false [oM 32 8 0,oM 33 9 0,oX 34 .xor 32 33 0,oM 10 34 0])
 (.seq (.reg false [⟨some 11,none,.mv (.k (.sl none 0 (.ex 0))),0⟩])
 (.seq (.seq (.reg false [oM 35 5 0,oI 36 0 0])
 (.blk 4 (.loop a4L0)))
 (.cutg 3 [0,2,4,5,6,7,8,11,24,25,28,29] [2,7] (.seq (.reg false [oM 64 11 0,oC 65 0 18 [.t 64] 0,oM 66 4 0,oC 67 0 17 [.t 65,.t 66] 0,oM 63 67 0,oE 68 63 0 0,oE 69 63 1 0,oM 13 68 0,oM 14 69 0])
 (.reg true [oF 70 1 7 0,oL 71 70 1,oM 72 13 0,oC 73 0 19 [.t 72] 4,⟨some 74,none,.bslice 49 1 1 [.c .f64 0 0] [(0,1,.t 73)],12⟩,⟨some 75,none,.app 49 1 16 (.t 71) (.t 74),31⟩,oF 76 1 7 63,oS 1 76 75 127]))))))))
 (.cutg 3 [0,2,4,5,6,7,8,24,25,28,29] [2,7] (.reg false [oY 77 .add 29 0 1,oM 29 77 0]))))))
def a4L2 : AC := .cutg 3 [0,2,4,5,6,7,24,25] [2,7] (.seq (.reg false [oX 26 .lss 25 24 0])
 (.seq (.ite (.t 26) (.skip) (.cutg 3 [2,7] [2,7] (.exit 0)))
 (.cutg 3 [0,2,4,5,6,7,24,25] [2,7] (.seq (.blk 1 (.seq (.reg false [oM 27 25 0,oM 8 27 0])
 (.seq (.reg false [oM 28 5 0,oI 29 0 0])
 (.blk 2 (.loop a4L1)))))
 (.cutg 3 [0,2,4,5,6,7,24,25] [2,7] (.reg false [oY 78 .add 25 0 1,oM 25 78 0]))))))
def a4 : AFn := ⟨1,80,[.cell 2 (some 2),.t 3],
    .seq (.reg false [⟨some 2,none,.alloc true 25 [.i .i64 0,.sl none 0 (.ex 0)],0⟩,oI 3 0 0])
 (.seq (.reg false [oM 15 0 0,oC 16 0 13 [.t 15] 0,oM 4 16 0])
 (.seq (.seq (.reg false [oM 17 4 0,oY 18 .lss 17 0 0])
 (.ite (.t 18) (.seq (.reg false [⟨some 19,none,.build [.i .i64 0,.sl none 0 (.ex 0)] [],0⟩,oS 2 2 19 0,oI 3 0 220])
 (.cutg 3 [2,3] [2] .ret)) (.skip)))
 (.cutg 3 [0,2,4] [2] (.seq (.reg false [oM 20 4 0,⟨some 21,none,.bin .shl (.k (.i .i64 1)) (.t 20),0⟩,oM 5 21 0])
 (.seq (.reg false [⟨some 6,none,.mv (.k (.fn (.func 14) [] [])),0⟩])
 (.seq (.reg false [oM 22 5 0,⟨some 23,none,.build [.i .i64 0,.sl none 0 (.ex 0)] [(0,1,.t 22)],0⟩,⟨some 7,none,.alloc true 25 [.i .i64 0,.sl none 0 (.ex 0)],0⟩,oS 2 7 23 0])
 (.seq (.seq (.reg false [oM 24 5 0,oI 25 0 0])
 (.blk 0 (.loop a4L2)))
 (.cutg 3 [2,7] [2,7] (.seq (.reg false [oJ 79 2 7 0,oS 2 2 79 0,oI 3 0 0])
 (.cutg 3 [2,3] [2] .ret))))))))))⟩
theorem ok4 : okFn Tryd.prog 3 Tryd.f4 a4 = true := by kernel_rfl
def a5L0 : AC := .cutg 3 [0,2,4,5,6,7,8,9,10] [2,6] (.seq (.seq (.reg false [oM 34 10 0,oM 35 5 0,oX 36 .lss 34 35 0])
 (.ite (.t 36) (.skip) (.cutg 3 [0,2,4,5,6,7,8,9] [2,6] (.exit 4))))
 (.cutg 3 [0,2,4,5,6,7,8,9,10] [2,6] (.seq (.blk 5 (.reg true [oM 39 9 0,oM 40 0 0,oM 41 7 0,oM 42 8 0,oX 43 .xor 41 42 12,oM 44 5 0,oM 45 10 0,oX 46 .mul 44 45 96,oX 47 .add 43 46 252,oA 48 1 40 47 510,oL 49 48 1022,⟨some 50,none,.build [.f .f64 0,.f .f64 0] [(0,1,.t 49)],2046⟩,oM 51 7 0,oM 52 8 0,oX 53 .xor 51 52 12288,oM 54 10 0,oC 55 0 22 [.t 53,.t 54] 61440,oM 56 8 0,oM 57 10 0,oC 58 0 22 [.t 56,.t 57] 520192,⟨some 59,none,.bin .mul (.k (.i .i64 2)) (.t 58),1044480⟩,oX 60 .add 55 59 2093056,oC 61 0 21 [.t 50,.t 60] 4194302,⟨some 62,none,.bslice 57 2 1 [.f .f64 0,.f .f64 0] [(0,2,.t 61)],8388606⟩,⟨some 63,none,.app 57 2 16 (.t 39) (.t 62),16777215⟩,oM 9 63 33554431]))
 (.cutg 3 [0,2,4,5,6,7,8,9,10] [2,6] (.reg false [oM 37 10 0,oY 38 .add 37 0 1,oM 10 38 0])))))
def a5L1 : AC := .cutg 3 [0,2,4,5,6,7,8] [2,6] (.seq (.seq (.reg false [oM 29 8 0,oM 30 5 0,oX 31 .lss 29 30 0])
 (.ite (.t 31) (.skip) (.cutg 3 [0,2,4,5,6,7] [2,6] (.exit 2))))
 (.cutg 3 [0,2,4,5,6,7,8] [2,6] (.seq (.blk 3 (.seq (.reg false [⟨some 9,none,.mv (.k (.sl none 0 (.ex 0))),0⟩])
 (.seq (.seq (.reg false [oI 10 0 0])
 (.blk 4 (.loop a5L0)))
 (.cutg 3 [0,2,4,5,6,7,8,9] [2,6] (.seq (.reg false [oM 65 9 0,oC 66 0 24 [.t 65] 0,oM 67 4 0,oC 68 0 23 [.t 66,.t 67] 0,oM 64 68 0,oE 69 64 0 0,oE 70 64 1 0,⟨some 11,none,.alloc true 57 [.f .f64 0,.f .f64 0],0⟩,oS 2 11 69 0,oM 12 70 0])
 (.reg true [oF 71 1 6 0,oL 72 71 1,oJ 73 2 11 0,oC 74 0 25 [.t 73] 4,⟨some 75,none,.bslice 57 2 1 [.f .f64 0,.f .f64 0] [(0,2,.t 74)],12⟩,⟨some 76,none,.app 57 2 16 (.t 72) (.t 75),31⟩,oF 77 1 6 63,oS 1 77 76 127]))))))
 (.cutg 3 [0,2,4,5,6,7,8] [2,6] (.reg false [oM 32 8 0,oY 33 .add 32 0 1,oM 8 33 0])))))
def a5L2 : AC := .cutg 3 [0,2,4,5,6,7] [2,6] (.seq (.seq (.reg false [oM 24 7 0,oM 25 5 0,oX 26 .lss 24 25 0])
 (.ite (.t 26) (.skip) (.cutg 3 [2,6] [2,6] (.exit 0))))
 (.cutg 3 [0,2,4,5,6,7] [2,6] (.seq (.blk 1 (.seq (.reg false [oI 8 0 0])
 (.blk 2 (.loop a5L1))))
 (.cutg 3 [0,2,4,5,6,7] [2,6] (.reg false [oM 27 7 0,oY 28 .add 27 0 1,oM 7 28 0])))))
def a5 : AFn := ⟨1,79,[.cell 2 (some 2),.t 3],
    .seq (.reg false [⟨some 2,none,.alloc true 31 [.i .i64 0,.sl none 0 (.ex 0)],0⟩,oI 3 0 0])
 (.seq (.reg false [oM 13 0 0,oG 14 13 0,oC 15 0 20 [.t 14] 0,oM 4 15 0])
 (.seq (.seq (.reg false [oM 16 4 0,oY 17 .lss 16 0 0])
 (.ite (.t 17) (.seq (.reg false [⟨some 18,none,.build [.i .i64 0,.sl none 0 (.ex 0)] [],0⟩,oS 2 2 18 0,oI 3 0 220])
 (.cutg 3 [2,3] [2] .ret)) (.skip)))
 (.cutg 3 [0,2,4] [2] (.seq (.reg false [oM 19 4 0,⟨some 20,none,.conv .u64 (.t 19),0⟩,⟨some 21,none,.bin .shl (.k (.i .i64 1)) (.t 20),0⟩,oM 5 21 0])
 (.seq (.reg false [oM 22 5 0,⟨some 23,none,.build [.i .i64 0,.sl none 0 (.ex 0)] [(0,1,.t 22)],0⟩,⟨some 6,none,.alloc true 31 [.i .i64 0,.sl none 0 (.ex 0)],0⟩,oS 2 6 23 0])
 (.seq (.seq (.reg false [oI 7 0 0])
 (.blk 0 (.loop a5L2)))
 (.cutg 3 [2,6] [2,6] (.seq (.reg false [oJ 78 2 6 0,oS 2 2 78 0,oI 3 0 0])
 (.cutg 3 [2,3] [2] .ret)))))))))⟩
theorem ok5 : okFn Tryd.prog 3 Tryd.f5 a5 = true := by kernel_rfl
def a6L0 : AC := .cutg 3 [4,5,12,13,14] [] (.seq (.reg false [oX 15 .lss 14 13 0])
 (.seq (.ite (.t 15) (.skip) (.cutg 3 [4,5] [] (.exit 0)))
 (.cutg 3 [4,5,12,13,14] [] (.seq (.blk 1 (.seq (.reg false [oA 16 1 12 14 0,oL 17 16 0,oM 7 17 0])
 (.reg false [oM 18 5 0,oM 19 7 0,oM 20 7 0,⟨some 21,none,.pop (.fbin .mul) [.t 19,.t 20],0⟩,⟨some 22,none,.bslice 34 1 1 [.f .f64 0] [(0,1,.t 21)],0⟩,⟨some 23,none,.app 34 1 8 (.t 18) (.t 22),0⟩,oM 5 23 0])))
 (.cutg 3 [4,5,12,13,14] [] (.reg false [oY 24 .add 14 0 1,oM 14 24 0]))))))
def a6 : AFn := ⟨1,30,[.t 2,.t 3],
    .seq (.reg false [⟨some 2,none,.mv (.k (.f .f64 0)),0⟩,oI 3 0 0])
 (.seq (.reg false [oM 8 0 0,oC 9 0 13 [.t 8] 0,oM 4 9 0])
 (.seq (.seq (.reg false [oM 10 4 0,oY 11 .lss 10 0 0])
 (.ite (.t 11) (.seq (.reg false [⟨some 2,none,.mv (.k (.f .f64 0)),0⟩,oI 3 0 220])
 (.cutg 3 [2,3] [] .ret)) (.skip)))
 (.cutg 3 [0,4] [] (.seq (.reg false [⟨some 5,none,.mv (.k (.sl none 0 (.ex 0))),0⟩])
 (.seq (.seq (.reg false [oM 12 0 0,oG 13 12 0,oI 14 0 0])
 (.blk 0 (.loop a6L0)))
 (.cutg 3 [4,5] [] (.seq (.reg false [oM 25 5 0,oC 26 0 27 [.t 25] 0,oM 27 4 0,⟨some 28,none,.un .neg (.t 27),0⟩,oC 29 0 26 [.t 26,.t 28] 0,oM 2 29 0,oI 3 0 0])
 (.cutg 3 [2,3] [] .ret))))))))⟩
theorem ok6 : okFn Tryd.prog 3 Tryd.f6 a6 = true := by kernel_rfl
def a7L0 : AC := .cutg 3 [0,4,5,6] [] (.seq (.seq (.reg false [oM 12 6 0,oM 13 0 0,oG 14 13 0,oX 15 .lss 12 14 0])
 (.ite (.t 15) (.skip) (.cutg 3 [4,5] [] (.exit 0))))
 (.cutg 3 [0,4,5,6] [] (.seq (.blk 1 (.reg true [oM 18 5 0,oM 19 0 0,oM 20 6 0,oA 21 1 19 20 6,oL 22 21 14,oM 23 0 0,oM 24 6 0,oA 25 1 23 24 96,oL 26 25 224,⟨some 27,none,.pop (.fbin .mul) [.t 22,.t 26],510⟩,⟨some 28,none,.bslice 34 1 1 [.f .f64 0] [(0,1,.t 27)],1022⟩,⟨some 29,none,.app 34 1 8 (.t 18) (.t 28),2047⟩,oM 5 29 4095]))
 (.cutg 3 [0,4,5,6] [] (.reg false [oM 16 6 0,oY 17 .add 16 0 1,oM 6 17 0])))))
def a7 : AFn := ⟨1,35,[.t 2,.t 3],
    .seq (.reg false [⟨some 2,none,.mv (.k (.f .f64 0)),0⟩,oI 3 0 0])
 (.seq (.reg false [oM 7 0 0,oG 8 7 0,oC 9 0 20 [.t 8] 0,oM 4 9 0])
 (.seq (.seq (.reg false [oM 10 4 0,oY 11 .lss 10 0 0])
 (.ite (.t 11) (.seq (.reg false [⟨some 2,none,.mv (.k (.f .f64 0)),0⟩,oI 3 0 220])
 (.cutg 3 [2,3] [] .ret)) (.skip)))
 (.cutg 3 [0,4] [] (.seq (.reg false [⟨some 5,none,.mv (.k (.sl none 0 (.ex 0))),0⟩])
 (.seq (.seq (.reg false [oI 6 0 0])
 (.blk 0 (.loop a7L0)))
 (.cutg 3 [4,5] [] (.seq (.reg false [oM 30 5 0,oC 31 0 28 [.t 30] 0,oM 32 4 0,⟨some 33,none,.un .neg (.t 32),0⟩,oC 34 0 26 [.t 31,.t 33] 0,oM 2 34 0,oI 3 0 0])
 (.cutg 3 [2,3] [] .ret))))))))⟩
theorem ok7 : okFn Tryd.prog 3 Tryd.f7 a7 = true := by kernel_rfl
def a8 : AFn := ⟨1,4,[.t 2],
    .seq (.reg false [oI 2 0 0])
 (.seq (.reg false [oM 3 0 0,oM 2 3 0])
 (.cut [2] [] .ret))⟩
theorem ok8 : okFn Tryd.prog 3 Tryd.f8 a8 = true := by kernel_rfl
def a9L0 : AC := .cut [0,1,5] [] (.seq (.seq (.reg false [oM 11 5 0,oM 12 0 0,oG 13 12 0,oX 14 .lss 11 13 0])
 (.ite (.t 14) (.skip) (.cut [] [] (.exit 0))))
 (.cut [0,1,5] [] (.seq (.blk 1 (.seq (.reg true [oM 17 0 0,oM 18 5 0,oA 19 1 17 18 3,oL 20 19 7,oM 21 1 0,oM 22 5 0,oA 23 2 21 22 48,oJ 24 2 23 112,oC 25 0 29 [.t 20,.t 24] 255,oN 26 25 511])
 (.ite (.t 26) (.seq (.reg false [oU 4 0])
 (.cut [4] [] .ret)) (.skip))))
 (.cut [0,1,5] [] (.reg false [oM 15 5 0,oY 16 .add 15 0 1,oM 5 16 0])))))
def a9 : AFn := ⟨2,27,[.t 4],
    .seq (.reg false [oU 4 0])
 (.seq (.seq (.reg false [oM 6 0 0,oG 7 6 0,oM 8 1 0,oG 9 8 0,oX 10 .neq 7 9 0])
 (.ite (.t 10) (.seq (.reg false [oU 4 0])
 (.cut [4] [] .ret)) (.skip)))
 (.cut [0,1] [] (.seq (.seq (.reg false [oI 5 0 0])
 (.blk 0 (.loop a9L0)))
 (.cut [] [] (.seq (.reg false [oT 4 0])
 (.cut [4] [] .ret))))))⟩
theorem ok9 : okFn Tryd.prog 3 Tryd.f9 a9 = true := by kernel_rfl
def a10 : AFn := ⟨2,10,[.t 4],
    .seq (.reg false [oU 4 0])
 (.seq (.reg false [oM 5 0 0,oC 6 0 30 [.t 5] 0,oM 7 1 0,oC 8 0 30 [.t 7] 0,oX 9 .eql 6 8 0,oM 4 9 0])
 (.cut [4] [] .ret))⟩
theorem ok10 : okFn Tryd.prog 3 Tryd.f10 a10 = true := by kernel_rfl
def a11L0 : AC := .cut [0,1,5] [] (.seq (.seq (.reg false [oM 11 5 0,oM 12 0 0,oG 13 12 0,oX 14 .lss 11 13 0])
 (.ite (.t 14) (.skip) (.cut [] [] (.exit 0))))
 (.cut [0,1,5] [] (.seq (.blk 1 (.seq (.reg true [oM 17 0 0,oM 18 5 0,oA 19 1 17 18 3,oL 20 19 7,oM 21 1 0,oM 22 5 0,oA 23 1 21 22 48,oL 24 23 112,oC 25 0 10 [.t 20,.t 24] 255,oN 26 25 511])
 (.ite (.t 26) (.seq (.reg false [oU 4 0])
 (.cut [4] [] .ret)) (.skip))))
 (.cut [0,1,5] [] (.reg false [oM 15 5 0,oY 16 .add 15 0 1,oM 5 16 0])))))
def a11 : AFn := ⟨2,27,[.t 4],
    .seq (.reg false [oU 4 0])
 (.seq (.seq (.reg false [oM 6 0 0,oG 7 6 0,oM 8 1 0,oG 9 8 0,oX 10 .neq 7 9 0])
 (.ite (.t 10) (.seq (.reg false [oU 4 0])
 (.cut [4] [] .ret)) (.skip)))
 (.cut [0,1] [] (.seq (.seq (.reg false [oI 5 0 0])
 (.blk 0 (.loop a11L0)))
 (.cut [] [] (.seq (.reg false [oT 4 0])
 (.cut [4] [] .ret))))))⟩
theorem ok11 : okFn Tryd.prog 3 Tryd.f11 a11 = true := by kernel_rfl
def a12 : AFn := ⟨0,127,[.t 0],
    .seq (.reg false [oU 0 0])
 (.seq (.reg false [oC 14 0 32 [] 0,⟨some 15,none,.build [.i .i64 0,.i .u64 0,.i .u64 0,.i .i64 0] [(0,1,.k (.i .i64 2)),(1,1,.k (.i .u64 3)),(2,1,.k (.i .u64 3))],0⟩,oC 16 0 31 [.t 14,.t 15] 0,oM 13 16 0,oE 17 13 0 0,oE 18 13 1 0,oM 1 17 0,oM 2 18 0])
 (.seq (.reg false [oC 20 0 32 [] 0,oC 21 0 33 [.t 20] 0,oM 19 21 0,oE 22 19 0 0,oE 23 19 1 0,oM 3 22 0,oM 4 23 0])
 (.seq (.reg false [oM 25 3 0,oC 26 0 4 [.t 25] 0,oM 24 26 0,oE 27 24 0 0,oE 28 24 1 0,⟨some 5,none,.alloc true 25 [.i .i64 0,.sl none 0 (.ex 0)],0⟩,oS 2 5 27 0,oM 6 28 0])
 (.seq (.reg false [oC 30 0 32 [] 0,⟨some 31,none,.build [.i .i64 0,.i .u64 0,.i .u64 0,.i .i64 0] [(0,1,.k (.i .i64 2)),(1,1,.k (.i .u64 3))],0⟩,⟨some 32,none,.build [.f .f64 0,.i .i64 0,.i .u64 0,.i .u64 0,.i .i64 0] [(0,1,.k (.f .f64 4602678819172646912)),(1,4,.t 31)],0⟩,⟨some 33,none,.build [.i .i64 0,.i .u64 0,.i .u64 0,.i .i64 0] [(0,1,.k (.i .i64 2)),(2,1,.k (.i .u64 3))],0⟩,⟨some 34,none,.build [.f .f64 0,.i .i64 0,.i .u64 0,.i .u64 0,.i .i64 0] [(0,1,.k (.f .f64 4598175219545276416)),(1,4,.t 33)],0⟩,⟨some 35,none,.bslice 76 5 2 [.f .f64 0,.i .i64 0,.i .u64 0,.i .u64 0,.i .i64 0,.f .f64 0,.i .i64 0,.i .u64 0,.i .u64 0,.i .i64 0] [(0,5,.t 32),(5,5,.t 34)],0⟩,oC 36 0 34 [.t 30,.t 35] 0,oM 29 36 0,oE 37 29 0 0,oE 38 29 1 0,oM 7 37 0,oM 8 38 0])
 (.seq (.reg false [⟨some 40,none,.bslice 3 1 2 [.i .i64 0,.i .i64 0] [(0,1,.k (.i .i64 0)),(1,1,.k (.i .i64 1))],0⟩,⟨some 41,none,.build [.i .i64 0,.i .i64 0,.sl none 0 (.ex 0),.i .i64 0,.i .i64 0,.i .i64 0] [(0,1,.k (.i .i64 1)),(1,1,.k (.i .i64 11)),(2,1,.t 40),(4,1,.k (.i .i64 (-1)))],0⟩,⟨some 42,none,.bslice 84 6 1 [.i .i64 0,.i .i64 0,.sl none 0 (.ex 0),.i .i64 0,.i .i64 0,.i .i64 0] [(0,6,.t 41)],0⟩,⟨some 43,none,.build [.i .i64 0,.i .i64 0,.sl none 0 (.ex 0)] [(0,1,.k (.i .i64 2)),(2,1,.t 42)],0⟩,⟨some 44,none,.build [.i .i64 0,.i .u64 0,.i .u64 0,.i .i64 0] [(0,1,.k (.i .i64 2)),(2,1,.k (.i .u64 2))],0⟩,oC 45 0 35 [.t 43,.t 44] 0,oM 39 45 0,oE 46 39 0 0,oE 47 39 1 0,⟨some 9,none,.alloc true 71 [.i .i64 0,.i .u64 0,.i .u64 0,.i .i64 0],0⟩,oS 4 9 46 0,oM 10 47 0])
 (.seq (.reg false [oM 49 3 0,oC 50 0 6 [.t 49] 0,oM 48 50 0,oE 51 48 0 0,oE 52 48 1 0,oM 11 51 0,oM 12 52 0])
 (.seq (.reg false [oM 53 2 0,oC 54 0 8 [.t 53] 0,oY 55 .eql 54 0 0,oM 56 55 0,gt 56 (oM 57 1 0),gt 56 ⟨some 58,none,.pop (.ceq false) [.t 57,.k (.c .f64 13830554455654793216 0)],0⟩,oQ 59 56 58 0,oM 60 59 0,gt 60 (oM 61 4 0),gt 60 (oC 62 0 8 [.t 61] 0),gt 60 (oY 63 .eql 62 0 0),oQ 64 60 63 0,oM 65 64 0,gt 65 (oM 66 3 0),gt 65 (oG 67 66 0),gt 65 (oY 68 .eql 67 0 16),oQ 69 65 68 0,oM 70 69 0,gt 70 (oM 71 3 0),gt 70 ⟨some 72,none,.iadr 1 (.t 71) (.k (.i .i64 15)),0⟩,gt 70 (oL 73 72 0),gt 70 ⟨some 74,none,.pop (.fcmp .eql) [.t 73,.k (.f .f64 13830554455654793216)],0⟩,oQ 75 70 74 0,oM 76 75 0,gt 76 (oM 77 6 0),gt 76 (oC 78 0 8 [.t 77] 0),gt 76 (oY 79 .eql 78 0 0),oQ 80 76 79 0,oM 81 80 0,gt 81 (oF 82 0 5 0),gt 81 (oL 83 82 0),gt 81 (oY 84 .eql 83 0 4),oQ 85 81 84 0,oM 86 85 0,gt 86 (oF 87 1 5 0),gt 86 (oL 88 87 0),gt 86 (oG 89 88 0),gt 86 (oY 90 .eql 89 0 16),oQ 91 86 90 0,oM 92 91 0,gt 92 (oF 93 1 5 0),gt 92 (oL 94 93 0),gt 92 ⟨some 95,none,.iadr 1 (.t 94) (.k (.i .i64 3)),0⟩,gt 92 (oL 96 95 0),gt 92 ⟨some 97,none,.pop (.ceq false) [.t 96,.k (.c .f64 4602678819172646912 0)],0⟩,oQ 98 92 97 0,oM 99 98 0,gt 99 (oM 100 8 0),gt 99 (oC 101 0 8 [.t 100] 0),gt 99 (oY 102 .eql 101 0 0),oQ 103 99 102 0,oM 104 103 0,gt 104 (oM 105 7 0),gt 104 ⟨some 106,none,.pop (.fcmp .eql) [.t 105,.k (.f .f64 4604930618986332160)],0⟩,oQ 107 104 106 0,oM 108 107 0,gt 108 (oM 109 10 0),gt 108 (oC 110 0 8 [.t 109] 0),gt 108 (oY 111 .eql 110 0 0),oQ 112 108 111 0,oM 113 112 0,gt 113 (oJ 114 4 9 0),gt 113 ⟨some 115,none,.build [.i .i64 0,.i .u64 0,.i .u64 0,.i .i64 0] [(0,1,.k (.i .i64 2)),(2,1,.k (.i .u64 3))],0⟩,gt 113 ⟨some 116,none,.eqs false [false,false,false,false] (.t 114) (.t 115),0⟩,oQ 117 113 116 0,oM 118 117 0,gt 118 (oM 119 12 0),gt 118 (oC 120 0 8 [.t 119] 0),gt 118 (oY 121 .eql 120 0 0),oQ 122 118 121 0,oM 123 122 0,gt 123 (oM 124 11 0),gt 123 ⟨some 125,none,.pop (.fcmp .eql) [.t 124,.k (.f .f64 4607182418800017408)],0⟩,oQ 126 123 125 0,oM 0 126 0])
 (.cutg 3 [0] [] .ret))))))))⟩
theorem ok12 : okFn Tryd.prog 3 Tryd.f12 a12 = true := by kernel_rfl
def a13L0 : AC := .cut [0,4] [] (.seq (.reg false [oY 5 .lss 4 0 6])
 (.seq (.ite (.t 5) (.skip) (.cut [] [] (.exit 0)))
 (.cut [0,4] [] (.seq (.blk 1 (.seq (.reg false [oM 6 4 0,oM 3 6 0])
 (.seq (.reg false [oM 7 0 0,oG 8 7 0,oM 9 3 0,⟨some 10,none,.bin .mul (.k (.i .i64 2)) (.t 9),0⟩,⟨some 11,none,.bin .shl (.k (.i .i64 1)) (.t 10),0⟩,oX 12 .eql 8 11 0])
 (.ite (.t 12) (.seq (.reg false [oM 13 3 0,oM 2 13 0])
 (.cut [2] [] .ret)) (.skip)))))
 (.cut [0,4] [] (.reg false [oY 14 .add 4 0 1,oM 4 14 0]))))))
def a13 : AFn := ⟨1,15,[.t 2],
    .seq (.reg false [oI 2 0 0])
 (.seq (.seq (.reg false [oI 4 0 0])
 (.blk 0 (.loop a13L0)))
 (.cut [] [] (.seq (.reg false [oI 2 0 (-1)])
 (.cut [2] [] .ret))))⟩
theorem ok13 : okFn Tryd.prog 3 Tryd.f13 a13 = true := by kernel_rfl
def a14 : AFn := ⟨2,10,[.t 4],
    .seq (.reg false [oI 4 0 0])
 (.seq (.reg false [oM 5 0 0,oM 6 1 0,oX 7 .and 5 6 0,⟨some 8,none,.conv .u64 (.t 7),0⟩,oC 9 0 15 [.t 8] 0,oM 4 9 0])
 (.cut [4] [] .ret))⟩
theorem ok14 : okFn Tryd.prog 3 Tryd.f14 a14 = true := by kernel_rfl
def a15 : AFn := ⟨1,8,[.t 2],
    .seq (.reg false [oI 2 0 0])
 (.seq (.ite (.k (.b false)) (.seq (.reg false [oM 3 0 0,⟨some 4,none,.conv .u32 (.t 3),0⟩,oC 5 0 36 [.t 4] 0,oM 2 5 0])
 (.cut [2] [] .ret)) (.skip))
 (.cut [0] [] (.seq (.reg false [oM 6 0 0,oC 7 0 37 [.t 6] 0,oM 2 7 0])
 (.cut [2] [] .ret))))⟩
theorem ok15 : okFn Tryd.prog 3 Tryd.f15 a15 = true := by kernel_rfl
def a16 : AFn := ⟨2,28,[.t 4],
    .seq (.reg false [⟨some 4,none,.mv (.k (.c .f64 0 0)),0⟩])
 (.seq (.seq (.reg false [oM 5 1 0,oY 6 .and 5 0 3])
 (.blk 0 (.seq (.reg false [oY 8 .eql 6 0 1,oM 7 8 0])
 (.ite (.t 7) (.seq (.reg false [oM 9 0 0,⟨some 10,none,.pop .im [.t 9],0⟩,⟨some 11,none,.pop .fneg [.t 10],0⟩,oM 12 0 0,⟨some 13,none,.pop .re [.t 12],0⟩,⟨some 14,none,.pop .mk [.t 11,.t 13],0⟩,oM 4 14 0])
 (.cut [4] [] .ret)) (.seq (.reg false [oY 16 .eql 6 0 2,oM 15 16 0])
 (.ite (.t 15) (.seq (.reg false [oM 17 0 0,oC 18 0 38 [.t 17] 0,oM 4 18 0])
 (.cut [4] [] .ret)) (.seq (.reg false [oY 20 .eql 6 0 3,oM 19 20 0])
 (.ite (.t 19) (.seq (.reg false [oM 21 0 0,⟨some 22,none,.pop .im [.t 21],0⟩,oM 23 0 0,⟨some 24,none,.pop .re [.t 23],0⟩,⟨some 25,none,.pop .fneg [.t 24],0⟩,⟨some 26,none,.pop .mk [.t 22,.t 25],0⟩,oM 4 26 0])
 (.cut [4] [] .ret)) (.skip)))))))))
 (.cut [0] [] (.seq (.reg false [oM 27 0 0,oM 4 27 0])
 (.cut [4] [] .ret))))⟩
theorem ok16 : okFn Tryd.prog 3 Tryd.f16 a16 = true := by kernel_rfl
def a17 : AFn := ⟨2,15,[.t 4,.t 5],
    .seq (.reg false [⟨some 3,none,.box false 3 (.t 1),0⟩,⟨some 4,none,.mv (.k (.c .f64 0 0)),0⟩,oI 5 0 0])
 (.seq (.seq (.reg false [oL 6 3 0,oY 7 .lss 6 0 0,oM 8 7 0,gf 8 (oL 9 3 0),gf 8 (oY 10 .gtr 9 0 2000),oP 11 8 10 0])
 (.ite (.t 11) (.seq (.reg false [⟨some 4,none,.mv (.k (.c .f64 0 0)),0⟩,oI 5 0 30])
 (.cutg 3 [4,5] [] .ret)) (.skip)))
 (.cutg 3 [0,3] [] (.seq (.reg false [oM 12 0 0,⟨some 13,none,.mkf (.func 40) [] [.t 3],0⟩,oC 14 0 39 [.t 12,.t 13] 0,oM 4 14 0,oI 5 0 0])
 (.cutg 3 [4,5] [] .ret))))⟩
theorem ok17 : okFn Tryd.prog 3 Tryd.f17 a17 = true := by kernel_rfl
def a18L0 : AC := .cut [3,13,14,15] [] (.seq (.reg false [oX 16 .lss 15 14 0])
 (.seq (.ite (.t 16) (.skip) (.cut [3] [] (.exit 0)))
 (.cut [3,13,14,15] [] (.seq (.blk 1 (.seq (.reg false [oA 17 1 13 15 0,oL 18 17 0,oM 5 18 0])
 (.reg false [oM 19 3 0,oM 20 5 0,oC 21 0 41 [.t 19,.t 20] 0,oM 3 21 0])))
 (.cut [3,13,14,15] [] (.reg false [oY 22 .add 15 0 1,oM 15 22 0]))))))
def a18 : AFn := ⟨1,24,[.t 2],
    .seq (.reg false [⟨some 2,none,.mv (.k (.c .f64 0 0)),0⟩])
 (.seq (.seq (.reg false [oM 6 0 0,oG 7 6 0,oY 8 .eql 7 0 0])
 (.ite (.t 8) (.seq (.reg false [⟨some 2,none,.mv (.k (.c .f64 0 0)),0⟩])
 (.cut [2] [] .ret)) (.skip)))
 (.cut [0] [] (.seq (.reg false [oM 9 0 0,⟨some 10,none,.iadr 1 (.t 9) (.k (.i .i64 0)),0⟩,oL 11 10 0,oM 3 11 0])
 (.seq (.seq (.reg false [oM 12 0 0,⟨some 13,none,.slc 1 (.t 12) (some (.k (.i .i64 1))) none none,0⟩,oG 14 13 0,oI 15 0 0])
 (.blk 0 (.loop a18L0)))
 (.cut [3] [] (.seq (.reg false [oM 23 3 0,oM 2 23 0])
 (.cut [2] [] .ret)))))))⟩
theorem ok18 : okFn Tryd.prog 3 Tryd.f18 a18 = true := by kernel_rfl
def a19 : AFn := ⟨1,5,[.t 2],
    .seq (.reg false [⟨some 2,none,.mv (.k (.c .f64 0 0)),0⟩])
 (.seq (.reg false [oM 3 0 0,⟨some 4,none,.call 0 (.k (.fn (.func 39) [] [])) [.t 3,.k (.fn (.func 42) [] [])],0⟩,oM 2 4 0])
 (.cut [2] [] .ret))⟩
theorem ok19 : okFn Tryd.prog 3 Tryd.f19 a19 = true := by kernel_rfl
def a20L0 : AC := .cut [0,3] [] (.seq (.seq (.reg false [oM 4 3 0,oY 5 .leq 4 0 5])
 (.ite (.t 5) (.skip) (.cut [] [] (.exit 0))))
 (.cut [0,3] [] (.seq (.blk 1 (.seq (.reg false [oM 8 0 0,oM 9 3 0,⟨some 10,none,.bin .mul (.k (.i .i64 2)) (.t 9),0⟩,⟨some 11,none,.conv .u64 (.t 10),0⟩,⟨some 12,none,.bin .shl (.k (.i .i64 1)) (.t 11),0⟩,oX 13 .eql 8 12 0])
 (.ite (.t 13) (.seq (.reg false [oM 14 3 0,oM 2 14 0])
 (.cut [2] [] .ret)) (.skip))))
 (.cut [0,3] [] (.reg false [oM 6 3 0,oY 7 .add 6 0 1,oM 3 7 0])))))
def a20 : AFn := ⟨1,15,[.t 2],
    .seq (.reg false [oI 2 0 0])
 (.seq (.seq (.reg false [oI 3 0 0])
 (.blk 0 (.loop a20L0)))
 (.cut [] [] (.seq (.reg false [oI 2 0 (-1)])
 (.cut [2] [] .ret))))⟩
theorem ok20 : okFn Tryd.prog 3 Tryd.f20 a20 = true := by kernel_rfl
def a21 : AFn := ⟨2,34,[.cell 4 (some 2)],
    .seq (.reg false [oB 2 57 0 0,⟨some 4,none,.alloc true 57 [.f .f64 0,.f .f64 0],0⟩])
 (.seq (.seq (.reg false [oM 5 1 0,⟨some 6,none,.conv .u64 (.t 5),0⟩,⟨some 7,none,.bin .rem (.t 6) (.k (.i .u64 4)),0⟩])
 (.blk 0 (.seq (.reg false [⟨some 9,none,.bin .eql (.t 7) (.k (.i .u64 1)),0⟩,oM 8 9 0])
 (.ite (.t 8) (.seq (.reg false [oF 10 1 2 0,oL 11 10 0,⟨some 12,none,.pop .fneg [.t 11],0⟩,oF 13 0 2 0,oL 14 13 0,⟨some 15,none,.build [.f .f64 0,.f .f64 0] [(0,1,.t 12),(1,1,.t 14)],0⟩,oS 2 4 15 0])
 (.cut [4] [4] .ret)) (.seq (.reg false [⟨some 17,none,.bin .eql (.t 7) (.k (.i .u64 2)),0⟩,oM 16 17 0])
 (.ite (.t 16) (.seq (.reg false [oF 18 0 2 0,oL 19 18 0,⟨some 20,none,.pop .fneg [.t 19],0⟩,oF 21 1 2 0,oL 22 21 0,⟨some 23,none,.pop .fneg [.t 22],0⟩,⟨some 24,none,.build [.f .f64 0,.f .f64 0] [(0,1,.t 20),(1,1,.t 23)],0⟩,oS 2 4 24 0])
 (.cut [4] [4] .ret)) (.seq (.reg false [⟨some 26,none,.bin .eql (.t 7) (.k (.i .u64 3)),0⟩,oM 25 26 0])
 (.ite (.t 25) (.seq (.reg false [oF 27 1 2 0,oL 28 27 0,oF 29 0 2 0,oL 30 29 0,⟨some 31,none,.pop .fneg [.t 30],0⟩,⟨some 32,none,.build [.f .f64 0,.f .f64 0] [(0,1,.t 28),(1,1,.t 31)],0⟩,oS 2 4 32 0])
 (.cut [4] [4] .ret)) (.skip)))))))))
 (.cut [2,4] [2,4] (.seq (.reg false [oJ 33 2 2 0,oS 2 4 33 0])
 (.cut [4] [4] .ret))))⟩
theorem ok21 : okFn Tryd.prog 3 Tryd.f21 a21 = true := by kernel_rfl
def a22L0 : AC := .cut [5,6] [] (.seq (.seq (.reg false [oM 10 6 0,oY 11 .gtr 10 0 0])
 (.ite (.t 11) (.skip) (.cut [5] [] (.exit 0))))
 (.cut [5,6] [] (.seq (.blk 1 (.reg false [oM 16 5 0,oY 17 .add 16 0 1,oM 5 17 0]))
 (.cut [5,6] [] (.reg false [oM 12 6 0,oM 13 6 0,oY 14 .sub 13 0 1,oX 15 .and 12 14 0,oM 6 15 0])))))
def a22 : AFn := ⟨2,19,[.t 4],
    .seq (.reg false [oI 4 0 0])
 (.seq (.reg false [oI 5 0 0])
 (.seq (.seq (.reg false [oM 7 0 0,oM 8 1 0,oX 9 .and 7 8 0,oM 6 9 0])
 (.blk 0 (.loop a22L0)))
 (.cut [5] [] (.seq (.reg false [oM 18 5 0,oM 4 18 0])
 (.cut [4] [] .ret)))))⟩
theorem ok22 : okFn Tryd.prog 3 Tryd.f22 a22 = true := by kernel_rfl
def a23 : AFn := ⟨2,24,[.cell 4 (some 2),.t 5],
    .seq (.reg false [oB 2 57 0 0,⟨some 4,none,.alloc true 57 [.f .f64 0,.f .f64 0],0⟩,oI 5 0 0])
 (.seq (.seq (.reg false [oM 6 1 0,oY 7 .lss 6 0 0,oM 8 7 0,gf 8 (oM 9 1 0),gf 8 (oY 10 .gtr 9 0 2000),oP 11 8 10 0])
 (.ite (.t 11) (.seq (.reg false [⟨some 12,none,.build [.f .f64 0,.f .f64 0] [],0⟩,oS 2 4 12 0,oI 5 0 30])
 (.cut [4,5] [4] .ret)) (.skip)))
 (.cut [1,2,4] [2,4] (.seq (.reg true [oF 13 0 2 0,oL 14 13 1,oM 15 1 0,⟨some 16,none,.un .neg (.t 15),4⟩,oC 17 0 26 [.t 14,.t 16] 15,oF 18 1 2 0,oL 19 18 32,oM 20 1 0,⟨some 21,none,.un .neg (.t 20),128⟩,oC 22 0 26 [.t 19,.t 21] 511,⟨some 23,none,.build [.f .f64 0,.f .f64 0] [(0,1,.t 17),(1,1,.t 22)],1023⟩,oS 2 4 23 2047,oI 5 4095 0])
 (.cut [4,5] [4] .ret))))⟩
theorem ok23 : okFn Tryd.prog 3 Tryd.f23 a23 = true := by kernel_rfl
def a24L0 : AC := .cut [0,2,3,4] [2,3] (.seq (.seq (.reg false [oM 12 4 0,oM 13 0 0,oG 14 13 0,oX 15 .lss 12 14 0])
 (.ite (.t 15) (.skip) (.cut [2,3] [2,3] (.exit 0))))
 (.cut [0,2,3,4] [2,3] (.seq (.blk 1 (.reg true [oJ 18 2 3 0,oM 19 0 0,oM 20 4 0,oA 21 2 19 20 6,oJ 22 2 21 14,oC 23 0 43 [.t 18,.t 22] 31,oS 2 3 23 63]))
 (.cut [0,2,3,4] [2,3] (.reg false [oM 16 4 0,oY 17 .add 16 0 1,oM 4 17 0])))))
def a24 : AFn := ⟨1,25,[.cell 2 (some 2)],
    .seq (.reg false [⟨some 2,none,.alloc true 57 [.f .f64 0,.f .f64 0],0⟩])
 (.seq (.seq (.reg false [oM 5 0 0,oG 6 5 0,oY 7 .eql 6 0 0])
 (.ite (.t 7) (.seq (.reg false [⟨some 8,none,.build [.f .f64 0,.f .f64 0] [],0⟩,oS 2 2 8 0])
 (.cut [2] [2] .ret)) (.skip)))
 (.cut [0,2] [2] (.seq (.reg false [oM 9 0 0,⟨some 10,none,.iadr 2 (.t 9) (.k (.i .i64 0)),0⟩,oJ 11 2 10 0,⟨some 3,none,.alloc true 57 [.f .f64 0,.f .f64 0],0⟩,oS 2 3 11 0])
 (.seq (.seq (.reg false [oI 4 0 1])
 (.blk 0 (.loop a24L0)))
 (.cut [2,3] [2,3] (.seq (.reg false [oJ 24 2 3 0,oS 2 2 24 0])
 (.cut [2] [2] .ret)))))))⟩
theorem ok24 : okFn Tryd.prog 3 Tryd.f24 a24 = true := by kernel_rfl
def a25 : AFn := ⟨1,10,[.cell 2 (some 2)],
    .seq (.reg false [oB 1 57 0 0,⟨some 2,none,.alloc true 57 [.f .f64 0,.f .f64 0],0⟩])
 (.seq (.reg false [oF 3 0 1 0,oL 4 3 0,⟨some 5,none,.pop (.fbin .add) [.t 4,.k (.f .f64 0)],0⟩,oF 6 1 1 0,oL 7 6 0,⟨some 8,none,.pop (.fbin .add) [.t 7,.k (.f .f64 0)],0⟩,⟨some 9,none,.build [.f .f64 0,.f .f64 0] [(0,1,.t 5),(1,1,.t 8)],0⟩,oS 2 2 9 0])
 (.cut [2] [2] .ret))⟩
theorem ok25 : okFn Tryd.prog 3 Tryd.f25 a25 = true := by kernel_rfl
def a26 : AFn := ⟨2,11,[.t 4],
    .seq (.reg false [⟨some 4,none,.mv (.k (.f .f64 0)),0⟩])
 (.seq (.ite (.k (.b false)) (.seq (.reg false [oM 5 0 0,oM 6 1 0,oC 7 0 44 [.t 5,.t 6] 0,oM 4 7 0])
 (.cut [4] [] .ret)) (.skip))
 (.cut [0,1] [] (.seq (.reg false [oM 8 0 0,oM 9 1 0,oC 10 0 45 [.t 8,.t 9] 0,oM 4 10 0])
 (.cut [4] [] .ret))))⟩
theorem ok26 : okFn Tryd.prog 3 Tryd.f26 a26 = true := by kernel_rfl
def a27L0 : AC := .cut [3,6,7,8] [] (.seq (.reg false [oX 9 .lss 8 7 0])
 (.seq (.ite (.t 9) (.skip) (.cut [3] [] (.exit 0)))
 (.cut [3,6,7,8] [] (.seq (.blk 1 (.seq (.reg false [oA 10 1 6 8 0,oL 11 10 0,oM 5 11 0])
 (.reg false [oM 12 3 0,oM 13 5 0,⟨some 14,none,.pop (.fbin .add) [.t 12,.t 13],0⟩,oM 3 14 0])))
 (.cut [3,6,7,8] [] (.reg false [oY 15 .add 8 0 1,oM 8 15 0]))))))
def a27 : AFn := ⟨1,17,[.t 2],
    .seq (.reg false [⟨some 2,none,.mv (.k (.f .f64 0)),0⟩])
 (.seq (.reg false [⟨some 3,none,.mv (.k (.f .f64 0)),0⟩])
 (.seq (.seq (.reg false [oM 6 0 0,oG 7 6 0,oI 8 0 0])
 (.blk 0 (.loop a27L0)))
 (.cut [3] [] (.seq (.reg false [oM 16 3 0,oM 2 16 0])
 (.cut [2] [] .ret)))))⟩
theorem ok27 : okFn Tryd.prog 3 Tryd.f27 a27 = true := by kernel_rfl
def a28L0 : AC := .cut [0,3,4] [] (.seq (.seq (.reg false [oM 5 4 0,oM 6 0 0,oG 7 6 0,oX 8 .lss 5 7 0])
 (.ite (.t 8) (.skip) (.cut [3] [] (.exit 0))))
 (.cut [0,3,4] [] (.seq (.blk 1 (.reg false [oM 11 3 0,oM 12 0 0,oM 13 4 0,oA 14 1 12 13 0,oL 15 14 0,⟨some 16,none,.pop (.fbin .add) [.t 11,.t 15],0⟩,oM 3 16 0]))
 (.cut [0,3,4] [] (.reg false [oM 9 4 0,oY 10 .add 9 0 1,oM 4 10 0])))))
def a28 : AFn := ⟨1,18,[.t 2],
    .seq (.reg false [⟨some 2,none,.mv (.k (.f .f64 0)),0⟩])
 (.seq (.reg false [⟨some 3,none,.mv (.k (.f .f64 0)),0⟩])
 (.seq (.seq (.reg false [oI 4 0 0])
 (.blk 0 (.loop a28L0)))
 (.cut [3] [] (.seq (.reg false [oM 17 3 0,oM 2 17 0])
 (.cut [2] [] .ret)))))⟩
theorem ok28 : okFn Tryd.prog 3 Tryd.f28 a28 = true := by kernel_rfl
def a29 : AFn := ⟨2,9,[.t 4],
    .seq (.reg false [oB 3 57 1 0,oU 4 0])
 (.seq (.reg true [oM 5 0 0,oC 6 0 47 [.t 5] 1,oJ 7 2 3 0,oC 8 0 46 [.t 6,.t 7] 7,oM 4 8 15])
 (.cut [4] [] .ret))⟩
theorem ok29 : okFn Tryd.prog 3 Tryd.f29 a29 = true := by kernel_rfl
def a31 : AFn := ⟨2,22,[.t 4,.t 5],
    .seq (.reg false [oB 3 71 1 0,⟨some 4,none,.mv (.k (.c .f64 0 0)),0⟩,oI 5 0 0])
 (.seq (.reg false [oJ 9 4 3 0,oM 10 0 0,oC 11 0 49 [.t 9,.t 10] 0,oM 8 11 0,oE 12 8 0 0,oE 13 8 1 0,oM 6 12 0,oM 7 13 0])
 (.seq (.seq (.reg false [oM 14 7 0,oY 15 .neq 14 0 0])
 (.ite (.t 15) (.seq (.reg false [oM 16 7 0,⟨some 4,none,.mv (.k (.c .f64 0 0)),0⟩,oM 5 16 0])
 (.cut [4,5] [] .ret)) (.skip)))
 (.cut [0,6] [] (.seq (.reg false [oM 17 0 0,oM 18 6 0,oC 19 0 50 [.t 17,.t 18] 0,oE 20 19 0 0,oE 21 19 1 0,oM 4 20 0,oM 5 21 0])
 (.cut [4,5] [] .ret)))))⟩
theorem ok31 : okFn Tryd.prog 3 Tryd.f31 a31 = true := by kernel_rfl
def a32 : AFn := ⟨0,2,[.t 0],
    .seq (.reg false [⟨some 0,none,.mv (.k (.sl none 0 (.ex 0))),0⟩])
 (.seq (.reg false [⟨some 1,none,.bslice 49 1 4 [.c .f64 0 0,.c .f64 0 0,.c .f64 0 0,.c .f64 0 0] [(0,1,.k (.c .f64 4602678819172646912 4602678819172646912)),(1,1,.k (.c .f64 0 0)),(2,1,.k (.c .f64 0 0)),(3,1,.k (.c .f64 4602678819172646912 4602678819172646912))],0⟩,oM 0 1 0])
 (.cutg 3 [0] [] .ret))⟩
theorem ok32 : okFn Tryd.prog 3 Tryd.f32 a32 = true := by kernel_rfl
def a33L0 : AC := .cutg 3 [0,4,6,22,23] [] (.seq (.reg false [oX 24 .lss 23 22 0])
 (.seq (.ite (.t 24) (.skip) (.cutg 3 [6] [] (.exit 0)))
 (.cutg 3 [0,4,6,22,23] [] (.seq (.blk 1 (.seq (.reg false [oM 25 23 0,oM 7 25 0])
 (.seq (.reg true [oM 27 0 0,oM 28 4 0,oM 29 7 0,oM 30 4 0,⟨some 31,none,.bin .shl (.k (.i .u64 1)) (.t 30),8⟩,⟨some 32,none,.bin .sub (.t 31) (.k (.i .u64 1)),24⟩,oX 33 .and 29 32 60,oM 34 7 0,oM 35 4 0,oX 36 .shr 34 35 384,⟨some 37,none,.build [.i .i64 0,.i .u64 0,.i .u64 0,.i .i64 0] [(0,1,.t 28),(1,1,.t 33),(2,1,.t 36)],1022⟩,oC 38 0 31 [.t 27,.t 37] 2047,oM 26 38 4095,oE 39 26 0 8191,oE 40 26 1 8191,oM 8 39 16383,oM 9 40 65535])
 (.reg false [oM 41 6 0,oM 42 8 0,⟨some 43,none,.pop .re [.t 42],0⟩,⟨some 44,none,.bslice 34 1 1 [.f .f64 0] [(0,1,.t 43)],0⟩,⟨some 45,none,.app 34 1 8 (.t 41) (.t 44),0⟩,oM 6 45 0]))))
 (.cutg 3 [0,4,6,22,23] [] (.reg false [⟨some 46,none,.bin .add (.t 23) (.k (.i .u64 1)),0⟩,oM 23 46 0]))))))
def a33 : AFn := ⟨1,48,[.t 2,.t 3],
    .seq (.reg false [⟨some 2,none,.mv (.k (.sl none 0 (.ex 0))),0⟩,oI 3 0 0])
 (.seq (.reg false [oM 11 0 0,oC 12 0 51 [.t 11] 0,oM 10 12 0,oE 13 10 0 0,oE 14 10 1 0,oM 4 13 0,oM 5 14 0])
 (.seq (.seq (.reg false [oM 15 5 0,oY 16 .neq 15 0 0])
 (.ite (.t 16) (.seq (.reg false [oM 17 5 0,⟨some 2,none,.mv (.k (.sl none 0 (.ex 0))),0⟩,oM 3 17 0])
 (.cutg 3 [2,3] [] .ret)) (.skip)))
 (.cutg 3 [0,4] [] (.seq (.seq (.reg false [oM 18 4 0,oY 19 .gtr 18 0 5])
 (.ite (.t 19) (.seq (.reg false [⟨some 2,none,.mv (.k (.sl none 0 (.ex 0))),0⟩,oI 3 0 220])
 (.cutg 3 [2,3] [] .ret)) (.skip)))
 (.cutg 3 [0,4] [] (.seq (.reg false [⟨some 6,none,.mv (.k (.sl none 0 (.ex 0))),0⟩])
 (.seq (.seq (.reg false [oM 20 4 0,⟨some 21,none,.bin .mul (.k (.i .i64 2)) (.t 20),0⟩,⟨some 22,none,.bin .shl (.k (.i .u64 1)) (.t 21),0⟩,⟨some 23,none,.mv (.k (.i .u64 0)),0⟩])
 (.blk 0 (.loop a33L0)))
 (.cutg 3 [6] [] (.seq (.reg false [oM 47 6 0,oM 2 47 0,oI 3 0 0])
 (.cutg 3 [2,3] [] .ret))))))))))⟩
theorem ok33 : okFn Tryd.prog 3 Tryd.f33 a33 = true := by kernel_rfl
def a34L0 : AC := .cutg 3 [0,8,22,23,24] [] (.seq (.reg false [oX 25 .lss 24 23 0])
 (.seq (.ite (.t 25) (.skip) (.cutg 3 [8] [] (.exit 0)))
 (.cutg 3 [0,8,22,23,24] [] (.seq (.blk 1 (.seq (.reg false [oA 26 5 22 24 0,oJ 27 5 26 0,⟨some 10,none,.alloc true 76 [.f .f64 0,.i .i64 0,.i .u64 0,.i .u64 0,.i .i64 0],0⟩,oS 5 10 27 0])
 (.seq (.reg false [oM 29 0 0,oF 30 1 10 0,oJ 31 4 30 0,oC 32 0 31 [.t 29,.t 31] 0,oM 28 32 0,oE 33 28 0 0,oE 34 28 1 0,oM 11 33 0,oM 12 34 0])
 (.reg false [oM 35 8 0,oF 36 0 10 0,oL 37 36 0,oM 38 11 0,⟨some 39,none,.pop .re [.t 38],0⟩,⟨some 40,none,.pop (.fbin .mul) [.t 37,.t 39],0⟩,⟨some 41,none,.bslice 34 1 1 [.f .f64 0] [(0,1,.t 40)],0⟩,⟨some 42,none,.app 34 1 8 (.t 35) (.t 41),0⟩,oM 8 42 0]))))
 (.cutg 3 [0,8,22,23,24] [] (.reg false [oY 43 .add 24 0 1,oM 24 43 0]))))))
def a34 : AFn := ⟨2,46,[.t 4,.t 5],
    .seq (.reg false [⟨some 4,none,.mv (.k (.f .f64 0)),0⟩,oI 5 0 0])
 (.seq (.seq (.reg false [oM 14 0 0,oM 15 1 0,oC 16 0 52 [.t 14,.t 15] 0,oM 13 16 0,oE 17 13 0 0,oE 18 13 1 0,oM 6 17 0,oM 7 18 0])
 (.seq (.reg false [oM 19 7 0,oY 20 .neq 19 0 0])
 (.ite (.t 20) (.seq (.reg false [oM 21 7 0,⟨some 4,none,.mv (.k (.f .f64 0)),0⟩,oM 5 21 0])
 (.cutg 3 [4,5] [] .ret)) (.skip))))
 (.cutg 3 [0,1] [] (.seq (.reg false [⟨some 8,none,.mv (.k (.sl none 0 (.ex 0))),0⟩])
 (.seq (.seq (.reg false [oM 22 1 0,oG 23 22 0,oI 24 0 0])
 (.blk 0 (.loop a34L0)))
 (.cutg 3 [8] [] (.seq (.reg false [oM 44 8 0,oC 45 0 27 [.t 44] 0,oM 4 45 0,oI 5 0 0])
 (.cutg 3 [4,5] [] .ret)))))))⟩
theorem ok34 : okFn Tryd.prog 3 Tryd.f34 a34 = true := by kernel_rfl
def a35 : AFn := ⟨2,11,[.cell 4 (some 4),.t 5],
    .seq (.reg false [oB 2 87 0 0,oB 3 71 1 0,⟨some 4,none,.alloc true 71 [.i .i64 0,.i .u64 0,.i .u64 0,.i .i64 0],0⟩,oI 5 0 0])
 (.seq (.reg false [oJ 6 3 2 0,oJ 7 4 3 0,oC 8 0 53 [.t 6,.t 7,.k (.b true)] 0,oE 9 8 0 0,oE 10 8 1 0,oS 4 4 9 0,oM 5 10 0])
 (.cut [4,5] [4] .ret))⟩
theorem ok35 : okFn Tryd.prog 3 Tryd.f35 a35 = true := by kernel_rfl
def a36 : AFn := ⟨1,21,[.t 2],
    .seq (.reg false [oI 2 0 0])
 (.seq (.reg true [oM 3 0 0,⟨some 4,none,.bin .shr (.t 3) (.k (.i .u64 24)),1⟩,⟨some 5,none,.idxs (.k (.s ⟨#[0,1,1,2,1,2,2,3,1,2,2,3,2,3,3,4,1,2,2,3,2,3,3,4,2,3,3,4,3,4,4,5,1,2,2,3,2,3,3,4,2,3,3,4,3,4,4,5,2,3,3,4,3,4,4,5,3,4,4,5,4,5,5,6,1,2,2,3,2,3,3,4,2,3,3,4,3,4,4,5,2,3,3,4,3,4,4,5,3,4,4,5,4,5,5,6,2,3,3,4,3,4,4,5,3,4,4,5,4,5,5,6,3,4,4,5,4,5,5,6,4,5,5,6,5,6,6,7,1,2,2,3,2,3,3,4,2,3,3,4,3,4,4,5,2,3,3,4,3,4,4,5,3,4,4,5,4,5,5,6,2,3,3,4,3,4,4,5,3,4,4,5,4,5,5,6,3,4,4,5,4,5,5,6,4,5,5,6,5,6,6,7,2,3,3,4,3,4,4,5,3,4,4,5,4,5,5,6,3,4,4,5,4,5,5,6,4,5,5,6,5,6,6,7,3,4,4,5,4,5,5,6,4,5,5,6,5,6,6,7,4,5,5,6,5,6,6,7,5,6,6,7,6,7,7,8]⟩)) (.t 4),3⟩,oM 6 0 0,⟨some 7,none,.bin .shr (.t 6) (.k (.i .u64 16)),8⟩,⟨some 8,none,.bin .and (.t 7) (.k (.i .u32 255)),24⟩,⟨some 9,none,.idxs (.k (.s ⟨#[0,1,1,2,1,2,2,3,1,2,2,3,2,3,3,4,1,2,2,3,2,3,3,4,2,3,3,4,3,4,4,5,1,2,2,3,2,3,3,4,2,3,3,4,3,4,4,5,2,3,3,4,3,4,4,5,3,4,4,5,4,5,5,6,1,2,2,3,2,3,3,4,2,3,3,4,3,4,4,5,2,3,3,4,3,4,4,5,3,4,4,5,4,5,5,6,2,3,3,4,3,4,4,5,3,4,4,5,4,5,5,6,3,4,4,5,4,5,5,6,4,5,5,6,5,6,6,7,1,2,2,3,2,3,3,4,2,3,3,4,3,4,4,5,2,3,3,4,3,4,4,5,3,4,4,5,4,5,5,6,2,3,3,4,3,4,4,5,3,4,4,5,4,5,5,6,3,4,4,5,4,5,5,6,4,5,5,6,5,6,6,7,2,3,3,4,3,4,4,5,3,4,4,5,4,5,5,6,3,4,4,5,4,5,5,6,4,5,5,6,5,6,6,7,3,4,4,5,4,5,5,6,4,5,5,6,5,6,6,7,4,5,5,6,5,6,6,7,5,6,6,7,6,7,7,8]⟩)) (.t 8),56⟩,oX 10 .add 5 9 127,oM 11 0 0,⟨some 12,none,.bin .shr (.t 11) (.k (.i .u64 8)),256⟩,⟨some 13,none,.bin .and (.t 12) (.k (.i .u32 255)),768⟩,⟨some 14,none,.idxs (.k (.s ⟨#[0,1,1,2,1,2,2,3,1,2,2,3,2,3,3,4,1,2,2,3,2,3,3,4,2,3,3,4,3,4,4,5,1,2,2,3,2,3,3,4,2,3,3,4,3,4,4,5,2,3,3,4,3,4,4,5,3,4,4,5,4,5,5,6,1,2,2,3,2,3,3,4,2,3,3,4,3,4,4,5,2,3,3,4,3,4,4,5,3,4,4,5,4,5,5,6,2,3,3,4,3,4,4,5,3,4,4,5,4,5,5,6,3,4,4,5,4,5,5,6,4,5,5,6,5,6,6,7,1,2,2,3,2,3,3,4,2,3,3,4,3,4,4,5,2,3,3,4,3,4,4,5,3,4,4,5,4,5,5,6,2,3,3,4,3,4,4,5,3,4,4,5,4,5,5,6,3,4,4,5,4,5,5,6,4,5,5,6,5,6,6,7,2,3,3,4,3,4,4,5,3,4,4,5,4,5,5,6,3,4,4,5,4,5,5,6,4,5,5,6,5,6,6,7,3,4,4,5,4,5,5,6,4,5,5,6,5,6,6,7,4,5,5,6,5,6,6,7,5,6,6,7,6,7,7,8]⟩)) (.t 13),1792⟩,oX 15 .add 10 14 4095,oM 16 0 0,⟨some 17,none,.bin .and (.t 16) (.k (.i .u32 255)),8192⟩,⟨some 18,none,.idxs (.k (.s ⟨#[0,1,1,2,1,2,2,3,1,2,2,3,2,3,3,4,1,2,2,3,2,3,3,4,2,3,3,4,3,4,4,5,1,2,2,3,2,3,3,4,2,3,3,4,3,4,4,5,2,3,3,4,3,4,4,5,3,4,4,5,4,5,5,6,1,2,2,3,2,3,3,4,2,3,3,4,3,4,4,5,2,3,3,4,3,4,4,5,3,4,4,5,4,5,5,6,2,3,3,4,3,4,4,5,3,4,4,5,4,5,5,6,3,4,4,5,4,5,5,6,4,5,5,6,5,6,6,7,1,2,2,3,2,3,3,4,2,3,3,4,3,4,4,5,2,3,3,4,3,4,4,5,3,4,4,5,4,5,5,6,2,3,3,4,3,4,4,5,3,4,4,5,4,5,5,6,3,4,4,5,4,5,5,6,4,5,5,6,5,6,6,7,2,3,3,4,3,4,4,5,3,4,4,5,4,5,5,6,3,4,4,5,4,5,5,6,4,5,5,6,5,6,6,7,3,4,4,5,4,5,5,6,4,5,5,6,5,6,6,7,4,5,5,6,5,6,6,7,5,6,6,7,6,7,7,8]⟩)) (.t 17),24576⟩,oX 19 .add 15 18 65535,⟨some 20,none,.conv .i64 (.t 19),131071⟩,oM 2 20 262143])
 (.cut [2] [] .ret))⟩
theorem ok36 : okFn Tryd.prog 3 Tryd.f36 a36 = true := by kernel_rfl
def a37 : AFn := ⟨1,35,[.t 2],
    .seq (.reg false [oI 2 0 0])
 (.seq (.reg false [oM 3 0 0,⟨some 4,none,.bin .shr (.t 3) (.k (.i .u64 1)),0⟩,⟨some 5,none,.bin .and (.t 4) (.k (.i .u64 6148914691236517205)),0⟩,oM 6 0 0,⟨some 7,none,.bin .and (.t 6) (.k (.i .u64 6148914691236517205)),0⟩,oX 8 .add 5 7 0,oM 0 8 0])
 (.seq (.reg false [oM 9 0 0,⟨some 10,none,.bin .shr (.t 9) (.k (.i .u64 2)),0⟩,⟨some 11,none,.bin .and (.t 10) (.k (.i .u64 3689348814741910323)),0⟩,oM 12 0 0,⟨some 13,none,.bin .and (.t 12) (.k (.i .u64 3689348814741910323)),0⟩,oX 14 .add 11 13 0,oM 0 14 0])
 (.seq (.reg false [oM 15 0 0,⟨some 16,none,.bin .shr (.t 15) (.k (.i .u64 4)),0⟩,oM 17 0 0,oX 18 .add 16 17 0,⟨some 19,none,.bin .and (.t 18) (.k (.i .u64 1085102592571150095)),0⟩,oM 0 19 0])
 (.seq (.reg false [oM 20 0 0,oM 21 0 0,⟨some 22,none,.bin .shr (.t 21) (.k (.i .u64 8)),0⟩,oX 23 .add 20 22 0,oM 0 23 0])
 (.seq (.reg false [oM 24 0 0,oM 25 0 0,⟨some 26,none,.bin .shr (.t 25) (.k (.i .u64 16)),0⟩,oX 27 .add 24 26 0,oM 0 27 0])
 (.seq (.reg false [oM 28 0 0,oM 29 0 0,⟨some 30,none,.bin .shr (.t 29) (.k (.i .u64 32)),0⟩,oX 31 .add 28 30 0,oM 0 31 0])
 (.seq (.reg false [oM 32 0 0,⟨some 33,none,.conv .i64 (.t 32),0⟩,oY 34 .and 33 0 127,oM 2 34 0])
 (.cut [2] [] .ret))))))))⟩
theorem ok37 : okFn Tryd.prog 3 Tryd.f37 a37 = true := by kernel_rfl
def a38 : AFn := ⟨1,10,[.t 2],
    .seq (.reg false [⟨some 2,none,.mv (.k (.c .f64 0 0)),0⟩])
 (.seq (.reg false [oM 3 0 0,⟨some 4,none,.pop .re [.t 3],0⟩,⟨some 5,none,.pop .fneg [.t 4],0⟩,oM 6 0 0,⟨some 7,none,.pop .im [.t 6],0⟩,⟨some 8,none,.pop .fneg [.t 7],0⟩,⟨some 9,none,.pop .mk [.t 5,.t 8],0⟩,oM 2 9 0])
 (.cut [2] [] .ret))⟩
theorem ok38 : okFn Tryd.prog 3 Tryd.f38 a38 = true := by kernel_rfl
def a39 : AFn := ⟨2,14,[.t 4],
    .seq (.reg false [⟨some 4,none,.mv (.k (.c .f64 0 0)),0⟩])
 (.seq (.reg false [oM 5 1 0,oM 6 0 0,⟨some 7,none,.pop .re [.t 6],0⟩,⟨some 8,none,.call 0 (.t 5) [.t 7],0⟩,oM 9 1 0,oM 10 0 0,⟨some 11,none,.pop .im [.t 10],0⟩,⟨some 12,none,.call 0 (.t 9) [.t 11],0⟩,⟨some 13,none,.pop .mk [.t 8,.t 12],0⟩,oM 4 13 0])
 (.cut [4] [] .ret))⟩
theorem ok39 : okFn Tryd.prog 3 Tryd.f39 a39 = true := by kernel_rfl
def a40 : AFn := ⟨2,8,[.t 3],
    .seq (.reg false [⟨some 3,none,.mv (.k (.f .f64 0)),0⟩])
 (.seq (.reg false [oM 4 0 0,oL 5 1 0,⟨some 6,none,.un .neg (.t 5),0⟩,oC 7 0 26 [.t 4,.t 6] 0,oM 3 7 0])
 (.cut [3] [] .ret))⟩
theorem ok40 : okFn Tryd.prog 3 Tryd.f40 a40 = true := by kernel_rfl
def a41 : AFn := ⟨2,16,[.t 4],
    .seq (.reg false [⟨some 4,none,.mv (.k (.c .f64 0 0)),0⟩])
 (.seq (.reg false [oM 5 0 0,⟨some 6,none,.pop .re [.t 5],0⟩,oM 7 1 0,⟨some 8,none,.pop .re [.t 7],0⟩,⟨some 9,none,.pop (.fbin .add) [.t 6,.t 8],0⟩,oM 10 0 0,⟨some 11,none,.pop .im [.t 10],0⟩,oM 12 1 0,⟨some 13,none,.pop .im [.t 12],0⟩,⟨some 14,none,.pop (.fbin .add) [.t 11,.t 13],0⟩,⟨some 15,none,.pop .mk [.t 9,.t 14],0⟩,oM 4 15 0])
 (.cut [4] [] .ret))⟩
theorem ok41 : okFn Tryd.prog 3 Tryd.f41 a41 = true := by kernel_rfl
def a42 : AFn := ⟨1,5,[.t 2],
    .seq (.reg false [⟨some 2,none,.mv (.k (.f .f64 0)),0⟩])
 (.seq (.reg false [oM 3 0 0,⟨some 4,none,.pop (.fbin .add) [.t 3,.k (.f .f64 0)],0⟩,oM 2 4 0])
 (.cut [2] [] .ret))⟩
theorem ok42 : okFn Tryd.prog 3 Tryd.f42 a42 = true := by kernel_rfl
def a43 : AFn := ⟨2,16,[.cell 4 (some 2)],
    .seq (.reg false [oB 2 57 0 0,oB 3 57 1 0,⟨some 4,none,.alloc true 57 [.f .f64 0,.f .f64 0],0⟩])
 (.seq (.reg false [oF 5 0 2 0,oL 6 5 0,oF 7 0 3 0,oL 8 7 0,⟨some 9,none,.pop (.fbin .add) [.t 6,.t 8],0⟩,oF 10 1 2 0,oL 11 10 0,oF 12 1 3 0,oL 13 12 0,⟨some 14,none,.pop (.fbin .add) [.t 11,.t 13],0⟩,⟨some 15,none,.build [.f .f64 0,.f .f64 0] [(0,1,.t 9),(1,1,.t 14)],0⟩,oS 2 4 15 0])
 (.cut [4] [4] .ret))⟩
theorem ok43 : okFn Tryd.prog 3 Tryd.f43 a43 = true := by kernel_rfl
def a45 : AFn := ⟨2,63,[.t 4],
    .seq (.reg false [⟨some 4,none,.mv (.k (.f .f64 0)),0⟩])
 (.seq (.blk 0 (.seq (.reg false [oM 9 0 0,⟨some 10,none,.pop (.fcmp .eql) [.t 9,.k (.f .f64 0)],0⟩,oM 8 10 0])
 (.ite (.t 8) (.seq (.reg false [oM 11 0 0,oM 4 11 0])
 (.cut [4] [] .ret)) (.seq (.reg false [oM 13 0 0,oC 14 0 54 [.t 13,.k (.i .i64 0)] 0,oM 15 14 0,gf 15 (oM 16 0 0),gf 15 (oC 17 0 55 [.t 16] 0),oP 18 15 17 0,oM 12 18 0])
 (.ite (.t 12) (.seq (.reg false [oM 19 0 0,oM 4 19 0])
 (.cut [4] [] .ret)) (.skip))))))
 (.cut [0,1] [] (.seq (.reg false [oM 21 0 0,oC 22 0 56 [.t 21] 0,oM 20 22 0,oE 23 20 0 0,oE 24 20 1 0,oM 0 23 0,oM 5 24 0])
 (.seq (.reg false [oM 25 1 0,oM 26 5 0,oX 27 .add 25 26 0,oM 1 27 0])
 (.seq (.reg false [oM 28 0 0,⟨some 29,none,.pop .fbits [.t 28],0⟩,oM 6 29 0])
 (.seq (.reg false [oM 30 1 0,oM 31 6 0,⟨some 32,none,.bin .shr (.t 31) (.k (.i .u64 52)),0⟩,⟨some 33,none,.conv .i64 (.t 32),0⟩,oY 34 .and 33 0 2047,oY 35 .sub 34 0 1023,oX 36 .add 30 35 0,oM 1 36 0])
 (.seq (.seq (.reg false [oM 37 1 0,oY 38 .lss 37 0 (-1075)])
 (.ite (.t 38) (.seq (.reg false [oM 39 0 0,oC 40 0 57 [.k (.f .f64 0),.t 39] 0,oM 4 40 0])
 (.cut [4] [] .ret)) (.skip)))
 (.cut [0,1,6] [] (.seq (.seq (.reg false [oM 41 1 0,oY 42 .gtr 41 0 1023])
 (.ite (.t 42) (.seq (.seq (.reg false [oM 43 0 0,⟨some 44,none,.pop (.fcmp .lss) [.t 43,.k (.f .f64 0)],0⟩])
 (.ite (.t 44) (.seq (.reg false [oC 45 0 58 [.k (.i .i64 (-1))] 0,oM 4 45 0])
 (.cut [4] [] .ret)) (.skip)))
 (.cut [] [] (.seq (.reg false [oC 46 0 58 [.k (.i .i64 1)] 0,oM 4 46 0])
 (.cut [4] [] .ret)))) (.skip)))
 (.cut [1,6] [] (.seq (.reg false [⟨some 7,none,.mv (.k (.f .f64 4607182418800017408)),0⟩])
 (.seq (.seq (.reg false [oM 47 1 0,oY 48 .lss 47 0 (-1022)])
 (.ite (.t 48) (.seq (.reg false [oM 49 1 0,oY 50 .add 49 0 53,oM 1 50 0])
 (.reg false [⟨some 7,none,.mv (.k (.f .f64 4368491638549381120)),0⟩])) (.skip)))
 (.cut [1,6,7] [] (.seq (.reg false [oM 51 6 0,⟨some 52,none,.bin .andNot (.t 51) (.k (.i .u64 9218868437227405312)),0⟩,oM 6 52 0])
 (.seq (.reg false [oM 53 6 0,oM 54 1 0,oY 55 .add 54 0 1023,⟨some 56,none,.conv .u64 (.t 55),0⟩,⟨some 57,none,.bin .shl (.t 56) (.k (.i .u64 52)),0⟩,oX 58 .or 53 57 0,oM 6 58 0])
 (.seq (.reg false [oM 59 7 0,oM 60 6 0,⟨some 61,none,.pop .ffrom [.t 60],0⟩,⟨some 62,none,.pop (.fbin .mul) [.t 59,.t 61],0⟩,oM 4 62 0])
 (.cut [4] [] .ret)))))))))))))))))⟩
theorem ok45 : okFn Tryd.prog 3 Tryd.f45 a45 = true := by kernel_rfl
def a46 : AFn := ⟨2,17,[.t 4],
    .seq (.reg false [oB 2 57 0 0,oB 3 57 1 0,oU 4 0])
 (.seq (.reg false [oF 5 0 2 0,oL 6 5 0,oF 7 0 3 0,oL 8 7 0,oC 9 0 60 [.t 6,.t 8] 0,oM 10 9 0,gt 10 (oF 11 1 2 0),gt 10 (oL 12 11 0),gt 10 (oF 13 1 3 0),gt 10 (oL 14 13 0),gt 10 (oC 15 0 60 [.t 12,.t 14] 0),oQ 16 10 15 0,oM 4 16 0])
 (.cut [4] [] .ret))⟩
theorem ok46 : okFn Tryd.prog 3 Tryd.f46 a46 = true := by kernel_rfl
def a47 : AFn := ⟨1,8,[.cell 2 (some 2)],
    .seq (.reg false [⟨some 2,none,.alloc true 57 [.f .f64 0,.f .f64 0],0⟩])
 (.seq (.reg false [oM 3 0 0,⟨some 4,none,.pop .re [.t 3],0⟩,oM 5 0 0,⟨some 6,none,.pop .im [.t 5],0⟩,⟨some 7,none,.build [.f .f64 0,.f .f64 0] [(0,1,.t 4),(1,1,.t 6)],0⟩,oS 2 2 7 0])
 (.cut [2] [2] .ret))⟩
theorem ok47 : okFn Tryd.prog 3 Tryd.f47 a47 = true := by kernel_rfl
def a49L0 : AC := .cutg 3 [2,8,31,32,33] [2] (.seq (.reg false [oX 34 .lss 33 32 0])
 (.seq (.ite (.t 34) (.skip) (.cutg 3 [8] [] (.exit 0)))
 (.cutg 3 [2,8,31,32,33] [2] (.seq (.blk 1 (.seq (.reg false [oM 35 33 0,oA 36 1 31 33 0,oL 37 36 0,oM 9 35 0,oM 10 37 0])
 (.seq (.reg true [oF 38 3 2 0,oL 39 38 1,oF 40 1 2 0,oL 41 40 4,oF 42 2 2 0,oL 43 42 16,oX 44 .and 41 43 60,oC 45 0 37 [.t 44] 124,oX 46 .add 39 45 255,oM 47 9 0,⟨some 48,none,.conv .u64 (.t 47),512⟩,oF 49 2 2 0,oL 50 49 2048,oX 51 .and 48 50 7680,oC 52 0 37 [.t 51] 16124,⟨some 53,none,.bin .mul (.k (.i .i64 2)) (.t 52),32508⟩,oX 54 .add 46 53 65535,oM 11 54 131071])
 (.reg true [oM 55 8 0,oM 56 9 0,oF 57 1 2 0,oL 58 57 4,⟨some 59,none,.conv .i64 (.t 58),12⟩,oX 60 .xor 56 59 30,oM 61 10 0,oM 62 11 0,oC 63 0 16 [.t 61,.t 62] 192,oC 64 0 19 [.t 63] 448,oA 65 1 55 60 1023,oS 1 65 64 2047]))))
 (.cutg 3 [2,8,31,32,33] [2] (.reg false [oY 66 .add 33 0 1,oM 33 66 0]))))))
def a49 : AFn := ⟨2,68,[.t 4,.t 5],
    .seq (.reg false [oB 2 71 0 0,⟨some 4,none,.mv (.k (.sl none 0 (.ex 0))),0⟩,oI 5 0 0])
 (.seq (.reg false [oM 13 1 0,oC 14 0 51 [.t 13] 0,oM 12 14 0,oE 15 12 0 0,oE 16 12 1 0,oM 6 15 0,oM 7 16 0])
 (.seq (.seq (.reg false [oM 17 7 0,oY 18 .neq 17 0 0])
 (.ite (.t 18) (.seq (.reg false [⟨some 4,none,.mv (.k (.sl none 0 (.ex 0))),0⟩,oI 5 0 90])
 (.cutg 3 [4,5] [] .ret)) (.skip)))
 (.cutg 3 [1,2,6] [2] (.seq (.seq (.reg false [oJ 19 4 2 0,oC 20 0 61 [.t 19] 0,oN 21 20 0,oM 22 21 0,gf 22 (oF 23 0 2 0),gf 22 (oL 24 23 0),gf 22 (oM 25 6 0),gf 22 (oX 26 .neq 24 25 0),oP 27 22 26 0])
 (.ite (.t 27) (.seq (.reg false [⟨some 4,none,.mv (.k (.sl none 0 (.ex 0))),0⟩,oI 5 0 130])
 (.cutg 3 [4,5] [] .ret)) (.skip)))
 (.cutg 3 [1,2] [2] (.seq (.reg false [oM 28 1 0,oG 29 28 0,⟨some 30,none,.mks 49 1 16 [.c .f64 0 0] (.t 29) (.t 29),0⟩,oM 8 30 0])
 (.seq (.seq (.reg false [oM 31 1 0,oG 32 31 0,oI 33 0 0])
 (.blk 0 (.loop a49L0)))
 (.cutg 3 [8] [] (.seq (.reg false [oM 67 8 0,oM 4 67 0,oI 5 0 0])
 (.cutg 3 [4,5] [] .ret))))))))))⟩
theorem ok49 : okFn Tryd.prog 3 Tryd.f49 a49 = true := by kernel_rfl
def a50 : AFn := ⟨2,21,[.t 4,.t 5],
    .seq (.reg false [⟨some 4,none,.mv (.k (.c .f64 0 0)),0⟩,oI 5 0 0])
 (.seq (.seq (.reg false [oM 6 0 0,oC 7 0 62 [.t 6] 0,oN 8 7 0,oM 9 8 0,gf 9 (oM 10 0 0),gf 9 (oG 11 10 0),gf 9 (oM 12 1 0),gf 9 (oG 13 12 0),gf 9 (oX 14 .neq 11 13 0),oP 15 9 14 0])
 (.ite (.t 15) (.seq (.reg false [⟨some 4,none,.mv (.k (.c .f64 0 0)),0⟩,oI 5 0 90])
 (.cut [4,5] [] .ret)) (.skip)))
 (.cut [0,1] [] (.seq (.reg false [oM 16 0 0,oM 17 1 0,oC 18 0 63 [.t 16,.t 17] 0,oE 19 18 0 0,oE 20 18 1 0,oM 4 19 0,oM 5 20 0])
 (.cut [4,5] [] .ret))))⟩
theorem ok50 : okFn Tryd.prog 3 Tryd.f50 a50 = true := by kernel_rfl
def a51 : AFn := ⟨1,24,[.t 2,.t 3],
    .seq (.reg false [oI 2 0 0,oI 3 0 0])
 (.seq (.reg false [oM 5 0 0,oG 6 5 0,⟨some 7,none,.conv .u64 (.t 6),0⟩,oC 8 0 64 [.t 7] 0,oY 9 .sub 8 0 1,oM 4 9 0])
 (.seq (.seq (.reg false [oM 10 4 0,oY 11 .lss 10 0 0,oM 12 11 0,gf 12 (oM 13 4 0),gf 12 (oY 14 .gtr 13 0 12),oP 15 12 14 0,oM 16 15 0,gf 16 (oM 17 0 0),gf 16 (oG 18 17 0),gf 16 (oM 19 4 0),gf 16 ⟨some 20,none,.bin .shl (.k (.i .i64 1)) (.t 19),0⟩,gf 16 (oX 21 .neq 18 20 0),oP 22 16 21 0])
 (.ite (.t 22) (.seq (.reg false [oI 2 0 0,oI 3 0 90])
 (.cut [2,3] [] .ret)) (.skip)))
 (.cut [4] [] (.seq (.reg false [oM 23 4 0,oM 2 23 0,oI 3 0 0])
 (.cut [2,3] [] .ret)))))⟩
theorem ok51 : okFn Tryd.prog 3 Tryd.f51 a51 = true := by kernel_rfl
def a52L0 : AC := .cut [6,18,19,20] [] (.seq (.reg false [oX 21 .lss 20 19 0])
 (.seq (.ite (.t 21) (.skip) (.cut [6] [] (.exit 0)))
 (.cut [6,18,19,20] [] (.seq (.blk 1 (.seq (.reg false [oA 22 5 18 20 0,oJ 23 5 22 0,⟨some 9,none,.alloc true 76 [.f .f64 0,.i .i64 0,.i .u64 0,.i .u64 0,.i .i64 0],0⟩,oS 5 9 23 0])
 (.seq (.reg false [oF 24 1 9 0,oJ 25 4 24 0,oC 26 0 65 [.t 25] 0,oN 27 26 0,oM 28 27 0,gf 28 (oF 29 1 9 0),gf 28 (oF 30 0 29 0),gf 28 (oL 31 30 0),gf 28 (oM 32 6 0),gf 28 (oX 33 .neq 31 32 0),oP 34 28 33 0,oM 35 34 0,gf 35 (oF 36 0 9 0),gf 35 (oL 37 36 0),gf 35 (oC 38 0 54 [.t 37,.k (.i .i64 0)] 0),oP 39 35 38 0,oM 40 39 0,gf 40 (oF 41 0 9 0),gf 40 (oL 42 41 0),gf 40 (oF 43 0 9 0),gf 40 (oL 44 43 0),gf 40 ⟨some 45,none,.pop (.fcmp .neq) [.t 42,.t 44],0⟩,oP 46 40 45 0])
 (.ite (.t 46) (.seq (.reg false [oI 4 0 0,oI 5 0 220])
 (.cut [4,5] [] .ret)) (.skip)))))
 (.cut [6,18,19,20] [] (.reg false [oY 47 .add 20 0 1,oM 20 47 0]))))))
def a52 : AFn := ⟨2,49,[.t 4,.t 5],
    .seq (.reg false [oI 4 0 0,oI 5 0 0])
 (.seq (.reg false [oM 11 0 0,oC 12 0 51 [.t 11] 0,oM 10 12 0,oE 13 10 0 0,oE 14 10 1 0,oM 6 13 0,oM 7 14 0])
 (.seq (.seq (.reg false [oM 15 7 0,oY 16 .neq 15 0 0])
 (.ite (.t 16) (.seq (.reg false [oM 17 7 0,oI 4 0 0,oM 5 17 0])
 (.cut [4,5] [] .ret)) (.skip)))
 (.cut [1,6] [] (.seq (.seq (.reg false [oM 18 1 0,oG 19 18 0,oI 20 0 0])
 (.blk 0 (.loop a52L0)))
 (.cut [6] [] (.seq (.reg false [oM 48 6 0,oM 4 48 0,oI 5 0 0])
 (.cut [4,5] [] .ret)))))))⟩
theorem ok52 : okFn Tryd.prog 3 Tryd.f52 a52 = true := by kernel_rfl
def a53L0 : AC := .cut [2,3,4,6,44,45] [3,4,6] (.seq (.reg false [oX 46 .lss 45 44 0])
 (.seq (.ite (.t 46) (.skip) (.cut [4,6] [4,6] (.exit 0)))
 (.cut [2,3,4,6,44,45] [3,4,6] (.seq (.blk 1 (.seq (.reg false [oM 47 45 0,oM 10 47 0])
 (.seq (.reg false [oF 48 2 3 0,oL 49 48 0,oM 50 10 0,oA 51 6 49 50 0,oJ 52 6 51 0,⟨some 11,none,.alloc true 84 [.i .i64 0,.i .i64 0,.sl none 0 (.ex 0),.i .i64 0,.i .i64 0,.i .i64 0],0⟩,oS 6 11 52 0])
 (.seq (.reg false [oF 53 1 11 0,oL 54 53 0,oM 12 54 0])
 (.seq (.seq (.reg false [oM 55 2 0])
 (.ite (.t 55) (.seq (.reg false [oF 56 2 3 0,oL 57 56 0,oF 58 2 3 0,oL 59 58 0,oG 60 59 0,oY 61 .sub 60 0 1,oM 62 10 0,oX 63 .sub 61 62 0,oA 64 6 57 63 0,oJ 65 6 64 0,oS 6 11 65 0])
 (.reg false [oF 66 1 11 0,oL 67 66 0,oC 68 0 70 [.t 67] 0,oM 12 68 0])) (.skip)))
 (.cut [2,3,4,6,11,12,44,45] [3,4,6,11] (.seq (.reg false [oF 69 0 11 0,oL 70 69 0,oY 71 .eql 70 0 1])
 (.ite (.t 71) (.reg false [oJ 73 4 4 0,oM 74 12 0,oF 75 2 11 0,oL 76 75 0,oC 77 0 71 [.t 73,.t 74,.t 76] 0,oM 72 77 0,oE 78 72 0 0,oE 79 72 1 0,oS 4 4 78 0]) (.skip)))))))))
 (.cut [2,3,4,6,44,45] [3,4,6] (.reg false [oY 80 .add 45 0 1,oM 45 80 0]))))))
def a53 : AFn := ⟨3,82,[.cell 6 (some 4),.t 7],
    .seq (.reg false [oB 3 87 0 0,oB 4 71 1 0,⟨some 6,none,.alloc true 71 [.i .i64 0,.i .u64 0,.i .u64 0,.i .i64 0],0⟩,oI 7 0 0])
 (.seq (.seq (.reg false [oJ 14 3 3 0,oC 15 0 66 [.t 14] 0,oM 13 15 0,oE 16 13 0 0,oE 17 13 1 0,oM 8 16 0,oM 9 17 0])
 (.seq (.reg false [oM 18 9 0,oY 19 .neq 18 0 0])
 (.ite (.t 19) (.seq (.reg false [⟨some 20,none,.build [.i .i64 0,.i .u64 0,.i .u64 0,.i .i64 0] [],0⟩,oM 21 9 0,oS 4 6 20 0,oM 7 21 0])
 (.cut [6,7] [6] .ret)) (.skip))))
 (.cut [2,3,4,6] [3,4,6] (.seq (.seq (.reg false [oJ 22 3 3 0,oC 23 0 67 [.t 22] 0,oN 24 23 0,oM 25 24 0,gf 25 (oJ 26 3 3 0),gf 25 (oC 27 0 68 [.t 26] 0),gf 25 (oN 28 27 0),oP 29 25 28 0])
 (.ite (.t 29) (.seq (.reg false [⟨some 30,none,.build [.i .i64 0,.i .u64 0,.i .u64 0,.i .i64 0] [],0⟩,oS 4 6 30 0,oI 7 0 220])
 (.cut [6,7] [6] .ret)) (.skip)))
 (.cut [2,3,4,6] [3,4,6] (.seq (.seq (.reg false [oJ 31 4 4 0,oC 32 0 69 [.t 31] 0,oY 33 .neq 32 0 0,oM 34 33 0,gf 34 (oF 35 0 4 0),gf 34 (oL 36 35 0),gf 34 (oF 37 0 3 0),gf 34 (oL 38 37 0),gf 34 (oX 39 .neq 36 38 0),oP 40 34 39 0])
 (.ite (.t 40) (.seq (.reg false [⟨some 41,none,.build [.i .i64 0,.i .u64 0,.i .u64 0,.i .i64 0] [],0⟩,oS 4 6 41 0,oI 7 0 130])
 (.cut [6,7] [6] .ret)) (.skip)))
 (.cut [2,3,4,6] [3,4,6] (.seq (.seq (.reg false [oF 42 2 3 0,oL 43 42 0,oG 44 43 0,oI 45 0 0])
 (.blk 0 (.loop a53L0)))
 (.cut [4,6] [4,6] (.seq (.reg false [oJ 81 4 4 0,oS 4 6 81 0,oI 7 0 0])
 (.cut [6,7] [6] .ret))))))))))⟩
theorem ok53 : okFn Tryd.prog 3 Tryd.f53 a53 = true := by kernel_rfl
def a54 : AFn := ⟨2,15,[.t 4],
    .seq (.reg false [oU 4 0])
 (.seq (.seq (.reg false [oM 5 1 0,oY 6 .eql 5 0 0])
 (.ite (.t 6) (.reg false [oM 7 0 0,oC 8 0 72 [.t 7] 0,oM 0 8 0]) (.seq (.reg false [oM 9 1 0,oY 10 .lss 9 0 0])
 (.ite (.t 10) (.reg false [oM 11 0 0,⟨some 12,none,.pop .fneg [.t 11],0⟩,oM 0 12 0]) (.skip)))))
 (.cut [0] [] (.seq (.reg false [oM 13 0 0,⟨some 14,none,.pop (.fcmp .gtr) [.t 13,.k (.f .f64 9218868437227405311)],0⟩,oM 4 14 0])
 (.cut [4] [] .ret))))⟩
theorem ok54 : okFn Tryd.prog 3 Tryd.f54 a54 = true := by kernel_rfl
def a55 : AFn := ⟨1,6,[.t 2],
    .seq (.reg false [oU 2 0])
 (.seq (.reg false [oM 3 0 0,oM 4 0 0,⟨some 5,none,.pop (.fcmp .neq) [.t 3,.t 4],0⟩,oM 2 5 0])
 (.cut [2] [] .ret))⟩
theorem ok55 : okFn Tryd.prog 3 Tryd.f55 a55 = true := by kernel_rfl
def a56 : AFn := ⟨1,10,[.t 2,.t 3],
    .seq (.reg false [⟨some 2,none,.mv (.k (.f .f64 0)),0⟩,oI 3 0 0])
 (.seq (.seq (.reg false [oM 4 0 0,oC 5 0 72 [.t 4] 0,⟨some 6,none,.pop (.fcmp .lss) [.t 5,.k (.f .f64 4503599627370496)],0⟩])
 (.ite (.t 6) (.seq (.reg false [oM 7 0 0,⟨some 8,none,.pop (.fbin .mul) [.t 7,.k (.f .f64 4841369599423283200)],0⟩,oM 2 8 0,oI 3 0 (-52)])
 (.cut [2,3] [] .ret)) (.skip)))
 (.cut [0] [] (.seq (.reg false [oM 9 0 0,oM 2 9 0,oI 3 0 0])
 (.cut [2,3] [] .ret))))⟩
theorem ok56 : okFn Tryd.prog 3 Tryd.f56 a56 = true := by kernel_rfl
def a57 : AFn := ⟨2,13,[.t 4],
    .seq (.reg false [⟨some 4,none,.mv (.k (.f .f64 0)),0⟩])
 (.seq (.reg false [oM 5 0 0,⟨some 6,none,.pop .fbits [.t 5],0⟩,⟨some 7,none,.bin .andNot (.t 6) (.k (.i .u64 9223372036854775808)),0⟩,oM 8 1 0,⟨some 9,none,.pop .fbits [.t 8],0⟩,⟨some 10,none,.bin .and (.t 9) (.k (.i .u64 9223372036854775808)),0⟩,oX 11 .or 7 10 0,⟨some 12,none,.pop .ffrom [.t 11],0⟩,oM 4 12 0])
 (.cut [4] [] .ret))⟩
theorem ok57 : okFn Tryd.prog 3 Tryd.f57 a57 = true := by kernel_rfl
def a58 : AFn := ⟨1,8,[.t 2],
    .seq (.reg false [⟨some 2,none,.mv (.k (.f .f64 0)),0⟩])
 (.seq (.reg false [⟨some 3,none,.mv (.k (.i .u64 0)),0⟩])
 (.seq (.seq (.reg false [oM 4 0 0,oY 5 .geq 4 0 0])
 (.ite (.t 5) (.reg false [⟨some 3,none,.mv (.k (.i .u64 9218868437227405312)),0⟩]) (.reg false [⟨some 3,none,.mv (.k (.i .u64 18442240474082181120)),0⟩])))
 (.cut [3] [] (.seq (.reg false [oM 6 3 0,⟨some 7,none,.pop .ffrom [.t 6],0⟩,oM 2 7 0])
 (.cut [2] [] .ret)))))⟩
theorem ok58 : okFn Tryd.prog 3 Tryd.f58 a58 = true := by kernel_rfl
def a60 : AFn := ⟨2,10,[.t 4],
    .seq (.reg false [oU 4 0])
 (.seq (.reg false [oM 5 0 0,oC 6 0 73 [.t 5] 0,oM 7 1 0,oC 8 0 73 [.t 7] 0,oX 9 .eql 6 8 0,oM 4 9 0])
 (.cut [4] [] .ret))⟩
theorem ok60 : okFn Tryd.prog 3 Tryd.f60 a60 = true := by kernel_rfl
def a61 : AFn := ⟨1,6,[.t 2],
    .seq (.reg false [oB 1 71 0 0,oU 2 0])
 (.seq (.reg false [oJ 3 4 1 0,oC 4 0 69 [.t 3] 0,oY 5 .eql 4 0 0,oM 2 5 0])
 (.cut [2] [] .ret))⟩
theorem ok61 : okFn Tryd.prog 3 Tryd.f61 a61 = true := by kernel_rfl
def a62 : AFn := ⟨1,12,[.t 2],
    .seq (.reg false [oU 2 0])
 (.seq (.reg false [oM 6 0 0,oC 7 0 51 [.t 6] 0,oM 5 7 0,oE 8 5 0 0,oE 9 5 1 0,oM 3 8 0,oM 4 9 0])
 (.seq (.reg false [oM 10 4 0,oY 11 .eql 10 0 0,oM 2 11 0])
 (.cut [2] [] .ret)))⟩
theorem ok62 : okFn Tryd.prog 3 Tryd.f62 a62 = true := by kernel_rfl
def a63L0 : AC := .cutg 3 [1,6,14,15,16] [] (.seq (.reg false [oX 17 .lss 16 15 0])
 (.seq (.ite (.t 17) (.skip) (.cutg 3 [6] [] (.exit 0)))
 (.cutg 3 [1,6,14,15,16] [] (.seq (.blk 1 (.seq (.reg false [oM 18 16 0,oA 19 1 14 16 0,oL 20 19 0,oM 7 18 0,oM 8 20 0])
 (.reg true [oM 21 6 0,oM 22 8 0,oC 23 0 75 [.t 22] 2,oM 24 1 0,oM 25 7 0,oA 26 1 24 25 24,oL 27 26 56,oC 28 0 74 [.t 23,.t 27] 126,⟨some 29,none,.bslice 49 1 1 [.c .f64 0 0] [(0,1,.t 28)],254⟩,⟨some 30,none,.app 49 1 16 (.t 21) (.t 29),511⟩,oM 6 30 1023])))
 (.cutg 3 [1,6,14,15,16] [] (.reg false [oY 31 .add 16 0 1,oM 16 31 0]))))))
def a63 : AFn := ⟨2,34,[.t 4,.t 5],
    .seq (.reg false [⟨some 4,none,.mv (.k (.c .f64 0 0)),0⟩,oI 5 0 0])
 (.seq (.seq (.reg false [oM 9 0 0,oG 10 9 0,oM 11 1 0,oG 12 11 0,oX 13 .neq 10 12 0])
 (.ite (.t 13) (.seq (.reg false [⟨some 4,none,.mv (.k (.c .f64 0 0)),0⟩,oI 5 0 30])
 (.cutg 3 [4,5] [] .ret)) (.skip)))
 (.cutg 3 [0,1] [] (.seq (.reg false [⟨some 6,none,.mv (.k (.sl none 0 (.ex 0))),0⟩])
 (.seq (.seq (.reg false [oM 14 0 0,oG 15 14 0,oI 16 0 0])
 (.blk 0 (.loop a63L0)))
 (.cutg 3 [6] [] (.seq (.reg false [oM 32 6 0,oC 33 0 18 [.t 32] 0,oM 4 33 0,oI 5 0 0])
 (.cutg 3 [4,5] [] .ret)))))))⟩
theorem ok63 : okFn Tryd.prog 3 Tryd.f63 a63 = true := by kernel_rfl
def a64 : AFn := ⟨1,8,[.t 2],
    .seq (.reg false [oI 2 0 0])
 (.seq (.ite (.k (.b false)) (.seq (.reg false [oM 3 0 0,⟨some 4,none,.conv .u32 (.t 3),0⟩,oC 5 0 76 [.t 4] 0,oM 2 5 0])
 (.cut [2] [] .ret)) (.skip))
 (.cut [0] [] (.seq (.reg false [oM 6 0 0,oC 7 0 77 [.t 6] 0,oM 2 7 0])
 (.cut [2] [] .ret))))⟩
theorem ok64 : okFn Tryd.prog 3 Tryd.f64 a64 = true := by kernel_rfl
def a65 : AFn := ⟨1,11,[.t 2],
    .seq (.reg false [oB 1 71 0 0,oU 2 0])
 (.seq (.reg false [oJ 3 4 1 0,oC 4 0 61 [.t 3] 0,oM 5 4 0,gt 5 (oF 6 3 1 0),gt 5 (oL 7 6 0),gt 5 (oY 8 .rem 7 0 2),gt 5 (oY 9 .eql 8 0 0),oQ 10 5 9 0,oM 2 10 0])
 (.cut [2] [] .ret))⟩
theorem ok65 : okFn Tryd.prog 3 Tryd.f65 a65 = true := by kernel_rfl
def a66L0 : AC := .cut [1,31,32,33] [1] (.seq (.reg false [oX 34 .lss 33 32 0])
 (.seq (.ite (.t 34) (.skip) (.cut [] [] (.exit 0)))
 (.cut [1,31,32,33] [1] (.seq (.blk 1 (.seq (.reg false [oM 35 33 0,oA 36 6 31 33 0,oJ 37 6 36 0,⟨some 5,none,.alloc true 84 [.i .i64 0,.i .i64 0,.sl none 0 (.ex 0),.i .i64 0,.i .i64 0,.i .i64 0],0⟩,oM 4 35 0,oS 6 5 37 0])
 (.seq (.reg false [oJ 38 6 5 0,oF 39 0 1 0,oL 40 39 0,oF 41 1 1 0,oL 42 41 0,oC 43 0 78 [.t 38,.t 40,.t 42] 0,oN 44 43 0])
 (.ite (.t 44) (.seq (.reg false [oM 45 4 0,oM 2 45 0,oI 3 0 80])
 (.cut [2,3] [] .ret)) (.skip)))))
 (.cut [1,31,32,33] [1] (.reg false [oY 46 .add 33 0 1,oM 33 46 0]))))))
def a66 : AFn := ⟨1,47,[.t 2,.t 3],
    .seq (.reg false [oB 1 87 0 0,oI 2 0 0,oI 3 0 0])
 (.seq (.seq (.reg false [oF 6 0 1 0,oL 7 6 0,oY 8 .lss 7 0 0,oM 9 8 0,gf 9 (oF 10 0 1 0),gf 9 (oL 11 10 0),gf 9 (oY 12 .gtr 11 0 64),oP 13 9 12 0,oM 14 13 0,gf 14 (oF 15 1 1 0),gf 14 (oL 16 15 0),gf 14 (oY 17 .lss 16 0 0),oP 18 14 17 0,oM 19 18 0,gf 19 (oF 20 1 1 0),gf 19 (oL 21 20 0),gf 19 (oY 22 .gtr 21 0 64),oP 23 19 22 0,oM 24 23 0,gf 24 (oF 25 2 1 0),gf 24 (oL 26 25 0),gf 24 (oG 27 26 0),gf 24 (oY 28 .gtr 27 0 4096),oP 29 24 28 0])
 (.ite (.t 29) (.seq (.reg false [oI 2 0 (-1),oI 3 0 80])
 (.cut [2,3] [] .ret)) (.skip)))
 (.cut [1] [1] (.seq (.seq (.reg false [oF 30 2 1 0,oL 31 30 0,oG 32 31 0,oI 33 0 0])
 (.blk 0 (.loop a66L0)))
 (.cut [] [] (.seq (.reg false [oI 2 0 0,oI 3 0 0])
 (.cut [2,3] [] .ret))))))⟩
theorem ok66 : okFn Tryd.prog 3 Tryd.f66 a66 = true := by kernel_rfl
def a67 : AFn := ⟨1,7,[.t 2],
    .seq (.reg false [oB 1 87 0 0,oU 2 0])
 (.seq (.reg false [oF 3 2 1 0,oL 4 3 0,⟨some 5,none,.call 0 (.k (.fn (.func 79) [] [])) [.t 4,.k (.fn (.func 80) [] [])],0⟩,oN 6 5 0,oM 2 6 0])
 (.cut [2] [] .ret))⟩
theorem ok67 : okFn Tryd.prog 3 Tryd.f67 a67 = true := by kernel_rfl
def a68 : AFn := ⟨1,7,[.t 2],
    .seq (.reg false [oB 1 87 0 0,oU 2 0])
 (.seq (.reg false [oF 3 2 1 0,oL 4 3 0,⟨some 5,none,.call 0 (.k (.fn (.func 79) [] [])) [.t 4,.k (.fn (.func 81) [] [])],0⟩,oN 6 5 0,oM 2 6 0])
 (.cut [2] [] .ret))⟩
theorem ok68 : okFn Tryd.prog 3 Tryd.f68 a68 = true := by kernel_rfl
def a69 : AFn := ⟨1,37,[.t 2],
    .seq (.reg false [oB 1 71 0 0,oI 2 0 0])
 (.seq (.seq (.reg false [oF 3 0 1 0,oL 4 3 0,oY 5 .lss 4 0 0,oM 6 5 0,gf 6 (oF 7 0 1 0),gf 6 (oL 8 7 0),gf 6 (oY 9 .gtr 8 0 64),oP 10 6 9 0,oM 11 10 0,gf 11 (oF 12 3 1 0),gf 11 (oL 13 12 0),gf 11 (oY 14 .lss 13 0 0),oP 15 11 14 0,oM 16 15 0,gf 16 (oF 17 3 1 0),gf 16 (oL 18 17 0),gf 16 (oY 19 .gtr 18 0 3),oP 20 16 19 0,oM 21 20 0,gf 21 (oF 22 0 1 0),gf 21 (oL 23 22 0),gf 21 (oY 24 .lss 23 0 64),gf 21 (oM 25 24 0),gt 25 (oF 26 1 1 0),gt 25 (oL 27 26 0),gt 25 (oF 28 2 1 0),gt 25 (oL 29 28 0),gt 25 (oX 30 .or 27 29 0),gt 25 (oF 31 0 1 0),gt 25 (oL 32 31 0),gt 25 (oX 33 .shr 30 32 0),gt 25 ⟨some 34,none,.bin .neq (.t 33) (.k (.i .u64 0)),0⟩,gf 21 (oQ 35 25 34 0),oP 36 21 35 0])
 (.ite (.t 36) (.seq (.reg false [oI 2 0 130])
 (.cut [2] [] .ret)) (.skip)))
 (.cut [] [] (.seq (.reg false [oI 2 0 0])
 (.cut [2] [] .ret))))⟩
theorem ok69 : okFn Tryd.prog 3 Tryd.f69 a69 = true := by kernel_rfl
def a70 : AFn := ⟨1,6,[.t 2],
    .seq (.reg false [oI 2 0 0])
 (.seq (.reg false [oM 3 0 0,oC 4 0 83 [.t 3] 0,⟨some 5,none,.fld 3 none (.t 4),0⟩,oM 2 5 0])
 (.cut [2] [] .ret))⟩
theorem ok70 : okFn Tryd.prog 3 Tryd.f70 a70 = true := by kernel_rfl
def a71L0 : AC := .cut [1,2,3,6,8,33,34,35] [3,6,8] (.seq (.reg false [oX 36 .lss 35 34 0])
 (.seq (.ite (.t 36) (.skip) (.cut [1,2,3,6,8] [3,6,8] (.exit 0)))
 (.cut [1,2,3,6,8,33,34,35] [3,6,8] (.seq (.blk 1 (.seq (.reg false [oA 37 1 33 35 0,oL 38 37 0,oM 10 38 0])
 (.seq (.reg true [oF 39 1 8 0,oL 40 39 1,oM 41 10 0,⟨some 42,none,.bin .shl (.k (.i .u64 1)) (.t 41),4⟩,oX 43 .andNot 40 42 15,oF 44 1 8 31,oS 1 44 43 63])
 (.reg true [oF 45 2 8 0,oL 46 45 1,oM 47 10 0,⟨some 48,none,.bin .shl (.k (.i .u64 1)) (.t 47),4⟩,oX 49 .andNot 46 48 15,oF 50 2 8 31,oS 1 50 49 63]))))
 (.cut [1,2,3,6,8,33,34,35] [3,6,8] (.reg false [oY 51 .add 35 0 1,oM 35 51 0]))))))
def a71L1 : AC := .cut [2,3,6,8,11,54,55,56] [3,6,8] (.seq (.reg false [oX 57 .lss 56 55 0])
 (.seq (.ite (.t 57) (.skip) (.cut [6,8] [6,8] (.exit 2)))
 (.cut [2,3,6,8,11,54,55,56] [3,6,8] (.seq (.blk 3 (.seq (.reg false [oM 58 56 0,oA 59 1 54 56 0,oL 60 59 0,oM 12 58 0,oM 13 60 0])
 (.seq (.reg false [oJ 61 4 3 0,oM 62 13 0,oC 63 0 86 [.t 61,.t 62] 0,oM 14 63 0])
 (.seq (.seq (.reg false [oM 64 14 0,oY 65 .eql 64 0 2])
 (.ite (.t 65) (.reg false [oF 66 3 8 0,oL 67 66 0,oY 68 .add 67 0 1,oY 69 .rem 68 0 4,oF 70 3 8 0,oS 1 70 69 0]) (.skip)))
 (.cut [2,3,6,8,11,12,14,54,55,56] [3,6,8] (.seq (.seq (.reg false [oM 71 14 0,oY 72 .eql 71 0 1,oM 73 72 0,gf 73 (oM 74 14 0),gf 73 (oY 75 .eql 74 0 2),oP 76 73 75 0])
 (.ite (.t 76) (.reg true [oJ 77 4 8 0,oM 78 11 0,oM 79 12 0,⟨some 80,none,.bin .mul (.k (.i .i64 2)) (.t 79),4⟩,oA 81 1 78 80 14,oL 82 81 30,oF 83 0 3 0,oL 84 83 64,oM 85 2 0,oC 86 0 88 [.t 82,.t 84,.t 85] 510,oC 87 0 87 [.t 77,.t 86] 1023,oS 4 8 87 2047]) (.skip)))
 (.cut [2,3,6,8,11,12,14,54,55,56] [3,6,8] (.seq (.reg false [oM 88 14 0,oY 89 .geq 88 0 2])
 (.ite (.t 89) (.reg true [oJ 90 4 8 0,oM 91 11 0,oM 92 12 0,⟨some 93,none,.bin .mul (.k (.i .i64 2)) (.t 92),4⟩,oY 94 .add 93 12 1,oA 95 1 91 94 30,oL 96 95 62,oF 97 0 3 0,oL 98 97 128,oM 99 2 0,oC 100 0 88 [.t 96,.t 98,.t 99] 1022,oC 101 0 87 [.t 90,.t 100] 2047,oS 4 8 101 4095]) (.skip))))))))))
 (.cut [2,3,6,8,11,54,55,56] [3,6,8] (.reg false [oY 102 .add 56 0 1,oM 56 102 0]))))))
def a71 : AFn := ⟨3,104,[.cell 6 (some 4),.t 7],
    .seq (.reg false [oB 3 71 0 0,⟨some 6,none,.alloc true 71 [.i .i64 0,.i .u64 0,.i .u64 0,.i .i64 0],0⟩,oI 7 0 0])
 (.seq (.seq (.reg false [oJ 15 4 3 0,oC 16 0 61 [.t 15] 0,oN 17 16 0,oM 18 17 0,gf 18 (oM 19 1 0),gf 18 (oC 20 0 82 [.t 19] 0),gf 18 (oN 21 20 0),oP 22 18 21 0,oM 23 22 0,gf 23 (oM 24 1 0),gf 23 (oM 25 2 0),gf 23 (oF 26 0 3 0),gf 23 (oL 27 26 0),gf 23 (oC 28 0 84 [.t 24,.t 25,.t 27] 0),gf 23 (oY 29 .neq 28 0 0),oP 30 23 29 0])
 (.ite (.t 30) (.seq (.reg false [⟨some 31,none,.build [.i .i64 0,.i .u64 0,.i .u64 0,.i .i64 0] [],0⟩,oS 4 6 31 0,oI 7 0 130])
 (.cut [6,7] [6] .ret)) (.skip)))
 (.cut [1,2,3,6] [3,6] (.seq (.reg false [oJ 32 4 3 0,⟨some 8,none,.alloc true 71 [.i .i64 0,.i .u64 0,.i .u64 0,.i .i64 0],0⟩,oS 4 8 32 0])
 (.seq (.seq (.reg false [oM 33 2 0,oG 34 33 0,oI 35 0 0])
 (.blk 0 (.loop a71L0)))
 (.cut [1,2,3,6,8] [3,6,8] (.seq (.reg false [oM 52 1 0,oC 53 0 85 [.t 52] 0,oM 11 53 0])
 (.seq (.seq (.reg false [oM 54 2 0,oG 55 54 0,oI 56 0 0])
 (.blk 2 (.loop a71L1)))
 (.cut [6,8] [6,8] (.seq (.reg false [oJ 103 4 8 0,oS 4 6 103 0,oI 7 0 0])
 (.cut [6,7] [6] .ret))))))))))⟩
theorem ok71 : okFn Tryd.prog 3 Tryd.f71 a71 = true := by kernel_rfl
def a73 : AFn := ⟨1,8,[.t 2],
    .seq (.reg false [⟨some 2,none,.mv (.k (.i .u64 0)),0⟩])
 (.seq (.seq (.reg false [oM 3 0 0,oM 4 0 0,⟨some 5,none,.pop (.fcmp .neq) [.t 3,.t 4],0⟩])
 (.ite (.t 5) (.seq (.reg false [⟨some 2,none,.mv (.k (.i .u64 9221120237041090561)),0⟩])
 (.cut [2] [] .ret)) (.skip)))
 (.cut [0] [] (.seq (.reg false [oM 6 0 0,⟨some 7,none,.pop .fbits [.t 6],0⟩,oM 2 7 0])
 (.cut [2] [] .ret))))⟩
theorem ok73 : okFn Tryd.prog 3 Tryd.f73 a73 = true := by kernel_rfl
def a74 : AFn := ⟨2,28,[.t 4],
    .seq (.reg false [⟨some 4,none,.mv (.k (.c .f64 0 0)),0⟩])
 (.seq (.reg false [oM 5 0 0,⟨some 6,none,.pop .re [.t 5],0⟩,oM 7 1 0,⟨some 8,none,.pop .re [.t 7],0⟩,⟨some 9,none,.pop (.fbin .mul) [.t 6,.t 8],0⟩,oM 10 0 0,⟨some 11,none,.pop .im [.t 10],0⟩,oM 12 1 0,⟨some 13,none,.pop .im [.t 12],0⟩,⟨some 14,none,.pop (.fbin .mul) [.t 11,.t 13],0⟩,⟨some 15,none,.pop (.fbin .sub) [.t 9,.t 14],0⟩,oM 16 0 0,⟨some 17,none,.pop .re [.t 16],0⟩,oM 18 1 0,⟨some 19,none,.pop .im [.t 18],0⟩,⟨some 20,none,.pop (.fbin .mul) [.t 17,.t 19],0⟩,oM 21 0 0,⟨some 22,none,.pop .im [.t 21],0⟩,oM 23 1 0,⟨some 24,none,.pop .re [.t 23],0⟩,⟨some 25,none,.pop (.fbin .mul) [.t 22,.t 24],0⟩,⟨some 26,none,.pop (.fbin .add) [.t 20,.t 25],0⟩,⟨some 27,none,.pop .mk [.t 15,.t 26],0⟩,oM 4 27 0])
 (.cut [4] [] .ret))⟩
theorem ok74 : okFn Tryd.prog 3 Tryd.f74 a74 = true := by kernel_rfl
def a75 : AFn := ⟨1,9,[.t 2],
    .seq (.reg false [⟨some 2,none,.mv (.k (.c .f64 0 0)),0⟩])
 (.seq (.reg false [oM 3 0 0,⟨some 4,none,.pop .re [.t 3],0⟩,oM 5 0 0,⟨some 6,none,.pop .im [.t 5],0⟩,⟨some 7,none,.pop .fneg [.t 6],0⟩,⟨some 8,none,.pop .mk [.t 4,.t 7],0⟩,oM 2 8 0])
 (.cut [2] [] .ret))⟩
theorem ok75 : okFn Tryd.prog 3 Tryd.f75 a75 = true := by kernel_rfl
def a76 : AFn := ⟨1,19,[.t 2],
    .seq (.reg false [oI 2 0 0])
 (.seq (.seq (.reg false [oM 3 0 0,⟨some 4,none,.bin .geq (.t 3) (.k (.i .u32 65536)),0⟩])
 (.ite (.t 4) (.seq (.reg false [oM 5 0 0,⟨some 6,none,.bin .shr (.t 5) (.k (.i .u64 16)),0⟩,oM 0 6 0])
 (.reg false [oI 2 0 16])) (.skip)))
 (.cut [0,2] [] (.seq (.seq (.reg false [oM 7 0 0,⟨some 8,none,.bin .geq (.t 7) (.k (.i .u32 256)),0⟩])
 (.ite (.t 8) (.seq (.reg false [oM 9 0 0,⟨some 10,none,.bin .shr (.t 9) (.k (.i .u64 8)),0⟩,oM 0 10 0])
 (.reg false [oM 11 2 0,oY 12 .add 11 0 8,oM 2 12 0])) (.skip)))
 (.cut [0,2] [] (.seq (.reg false [oM 13 2 0,oM 14 0 0,⟨some 15,none,.conv .u8 (.t 14),0⟩,⟨some 16,none,.idxs (.k (.s ⟨#[0,1,2,2,3,3,3,3,4,4,4,4,4,4,4,4,5,5,5,5,5,5,5,5,5,5,5,5,5,5,5,5,6,6,6,6,6,6,6,6,6,6,6,6,6,6,6,6,6,6,6,6,6,6,6,6,6,6,6,6,6,6,6,6,7,7,7,7,7,7,7,7,7,7,7,7,7,7,7,7,7,7,7,7,7,7,7,7,7,7,7,7,7,7,7,7,7,7,7,7,7,7,7,7,7,7,7,7,7,7,7,7,7,7,7,7,7,7,7,7,7,7,7,7,7,7,7,7,8,8,8,8,8,8,8,8,8,8,8,8,8,8,8,8,8,8,8,8,8,8,8,8,8,8,8,8,8,8,8,8,8,8,8,8,8,8,8,8,8,8,8,8,8,8,8,8,8,8,8,8,8,8,8,8,8,8,8,8,8,8,8,8,8,8,8,8,8,8,8,8,8,8,8,8,8,8,8,8,8,8,8,8,8,8,8,8,8,8,8,8,8,8,8,8,8,8,8,8,8,8,8,8,8,8,8,8,8,8,8,8,8,8,8,8,8,8,8,8,8,8,8,8,8,8,8,8]⟩)) (.t 15),0⟩,⟨some 17,none,.conv .i64 (.t 16),0⟩,oX 18 .add 13 17 0,oM 2 18 0])
 (.cut [2] [] .ret))))))⟩
theorem ok76 : okFn Tryd.prog 3 Tryd.f76 a76 = true := by kernel_rfl
def a77 : AFn := ⟨1,25,[.t 2],
    .seq (.reg false [oI 2 0 0])
 (.seq (.seq (.reg false [oM 3 0 0,⟨some 4,none,.bin .geq (.t 3) (.k (.i .u64 4294967296)),0⟩])
 (.ite (.t 4) (.seq (.reg false [oM 5 0 0,⟨some 6,none,.bin .shr (.t 5) (.k (.i .u64 32)),0⟩,oM 0 6 0])
 (.reg false [oI 2 0 32])) (.skip)))
 (.cut [0,2] [] (.seq (.seq (.reg false [oM 7 0 0,⟨some 8,none,.bin .geq (.t 7) (.k (.i .u64 65536)),0⟩])
 (.ite (.t 8) (.seq (.reg false [oM 9 0 0,⟨some 10,none,.bin .shr (.t 9) (.k (.i .u64 16)),0⟩,oM 0 10 0])
 (.reg false [oM 11 2 0,oY 12 .add 11 0 16,oM 2 12 0])) (.skip)))
 (.cut [0,2] [] (.seq (.seq (.reg false [oM 13 0 0,⟨some 14,none,.bin .geq (.t 13) (.k (.i .u64 256)),0⟩])
 (.ite (.t 14) (.seq (.reg false [oM 15 0 0,⟨some 16,none,.bin .shr (.t 15) (.k (.i .u64 8)),0⟩,oM 0 16 0])
 (.reg false [oM 17 2 0,oY 18 .add 17 0 8,oM 2 18 0])) (.skip)))
 (.cut [0,2] [] (.seq (.reg false [oM 19 2 0,oM 20 0 0,⟨some 21,none,.conv .u8 (.t 20),0⟩,⟨some 22,none,.idxs (.k (.s ⟨#[0,1,2,2,3,3,3,3,4,4,4,4,4,4,4,4,5,5,5,5,5,5,5,5,5,5,5,5,5,5,5,5,6,6,6,6,6,6,6,6,6,6,6,6,6,6,6,6,6,6,6,6,6,6,6,6,6,6,6,6,6,6,6,6,7,7,7,7,7,7,7,7,7,7,7,7,7,7,7,7,7,7,7,7,7,7,7,7,7,7,7,7,7,7,7,7,7,7,7,7,7,7,7,7,7,7,7,7,7,7,7,7,7,7,7,7,7,7,7,7,7,7,7,7,7,7,7,7,8,8,8,8,8,8,8,8,8,8,8,8,8,8,8,8,8,8,8,8,8,8,8,8,8,8,8,8,8,8,8,8,8,8,8,8,8,8,8,8,8,8,8,8,8,8,8,8,8,8,8,8,8,8,8,8,8,8,8,8,8,8,8,8,8,8,8,8,8,8,8,8,8,8,8,8,8,8,8,8,8,8,8,8,8,8,8,8,8,8,8,8,8,8,8,8,8,8,8,8,8,8,8,8,8,8,8,8,8,8,8,8,8,8,8,8,8,8,8,8,8,8,8,8,8,8,8,8]⟩)) (.t 21),0⟩,⟨some 23,none,.conv .i64 (.t 22),0⟩,oX 24 .add 19 23 0,oM 2 24 0])
 (.cut [2] [] .ret))))))))⟩
theorem ok77 : okFn Tryd.prog 3 Tryd.f77 a77 = true := by kernel_rfl
def a78L0 : AC := .cut [1,2,3,79,80,81] [3] (.seq (.reg false [oX 82 .lss 81 80 0])
 (.seq (.ite (.t 82) (.skip) (.cut [2,3] [3] (.exit 0)))
 (.cut [1,2,3,79,80,81] [3] (.seq (.blk 1 (.seq (.reg false [oM 83 81 0,oA 84 1 79 81 0,oL 85 84 0,oM 9 83 0,oM 10 85 0])
 (.seq (.reg false [oM 86 10 0,oY 87 .lss 86 0 0,oM 88 87 0,gf 88 (oM 89 10 0),gf 88 (oM 90 1 0),gf 88 (oX 91 .geq 89 90 0),oP 92 88 91 0,oM 93 92 0,gf 93 (oF 94 2 3 0),gf 93 (oL 95 94 0),gf 93 (oM 96 9 0),gf 93 ⟨some 97,none,.slc 1 (.t 95) none (some (.t 96)) none,0⟩,gf 93 (oM 98 10 0),gf 93 (oC 99 0 89 [.t 97,.t 98] 0),oP 100 93 99 0])
 (.ite (.t 100) (.seq (.reg false [oU 6 0])
 (.cut [6] [] .ret)) (.skip)))))
 (.cut [1,2,3,79,80,81] [3] (.reg false [oY 101 .add 81 0 1,oM 81 101 0]))))))
def a78 : AFn := ⟨3,137,[.t 6],
    .seq (.reg false [oB 3 84 0 0,oU 6 0])
 (.seq (.seq (.reg false [oF 11 0 3 0,oL 12 11 0,oY 13 .eql 12 0 1])
 (.ite (.t 13) (.seq (.reg false [oF 14 4 3 0,oL 15 14 0,oY 16 .eql 15 0 (-1),oM 17 16 0,gt 17 (oF 18 5 3 0),gt 17 (oL 19 18 0),gt 17 (oY 20 .eql 19 0 0),oQ 21 17 20 0,oM 7 21 0])
 (.seq (.reg false [oF 22 4 3 0,oL 23 22 0,oY 24 .geq 23 0 0,oM 25 24 0,gt 25 (oF 26 4 3 0),gt 25 (oL 27 26 0),gt 25 (oM 28 2 0),gt 25 (oX 29 .lss 27 28 0),oQ 30 25 29 0,oM 31 30 0,gt 31 (oF 32 5 3 0),gt 31 (oL 33 32 0),gt 31 (oY 34 .eql 33 0 0),gt 31 (oM 35 34 0),gf 35 (oF 36 5 3 0),gf 35 (oL 37 36 0),gf 35 (oY 38 .eql 37 0 1),gt 31 (oP 39 35 38 0),oQ 40 31 39 0,oM 8 40 0])
 (.seq (.reg false [oF 41 1 3 0,oL 42 41 0,oF 43 2 3 0,oL 44 43 0,oM 45 1 0,oC 46 0 84 [.t 42,.t 44,.t 45] 0,oY 47 .eql 46 0 0,oM 48 47 0,gt 48 (oF 49 3 3 0),gt 48 (oL 50 49 0),gt 48 (oY 51 .eql 50 0 0),oQ 52 48 51 0,oM 53 52 0,gt 53 (oM 54 7 0),gt 53 (oM 55 54 0),gf 55 (oM 56 8 0),gt 53 (oP 57 55 56 0),oQ 58 53 57 0,oM 6 58 0])
 (.cut [6] [] .ret)))) (.skip)))
 (.cut [1,2,3] [3] (.seq (.seq (.reg false [oF 59 1 3 0,oL 60 59 0,oY 61 .neq 60 0 0,oM 62 61 0,gf 62 (oF 63 4 3 0),gf 62 (oL 64 63 0),gf 62 (oY 65 .neq 64 0 (-1)),oP 66 62 65 0,oM 67 66 0,gf 67 (oF 68 5 3 0),gf 67 (oL 69 68 0),gf 67 (oY 70 .neq 69 0 0),oP 71 67 70 0,oM 72 71 0,gf 72 (oF 73 2 3 0),gf 72 (oL 74 73 0),gf 72 (oG 75 74 0),gf 72 (oY 76 .eql 75 0 0),oP 77 72 76 0])
 (.ite (.t 77) (.seq (.reg false [oU 6 0])
 (.cut [6] [] .ret)) (.skip)))
 (.cut [1,2,3] [3] (.seq (.seq (.reg false [oF 78 2 3 0,oL 79 78 0,oG 80 79 0,oI 81 0 0])
 (.blk 0 (.loop a78L0)))
 (.cut [2,3] [3] (.seq (.seq (.reg false [oF 102 0 3 0,oL 103 102 0])
 (.blk 2 (.seq (.reg false [oY 105 .eql 103 0 2,oM 104 105 0])
 (.ite (.t 104) (.seq (.reg false [oF 106 2 3 0,oL 107 106 0,oG 108 107 0,oY 109 .eql 108 0 1,oM 110 109 0,gt 110 (oF 111 3 3 0),gt 110 (oL 112 111 0),gt 110 (oY 113 .geq 112 0 0),oQ 114 110 113 0,oM 115 114 0,gt 115 (oF 116 3 3 0),gt 115 (oL 117 116 0),gt 115 (oM 118 2 0),gt 115 (oX 119 .lss 117 118 0),oQ 120 115 119 0,oM 6 120 0])
 (.cut [6] [] .ret)) (.seq (.reg false [oY 122 .eql 103 0 3,oM 121 122 0])
 (.ite (.t 121) (.seq (.reg false [oF 123 2 3 0,oL 124 123 0,oG 125 124 0,oY 126 .eql 125 0 1,oM 127 126 0,gt 127 (oF 128 3 3 0),gt 127 (oL 129 128 0),gt 127 (oY 130 .eql 129 0 0),oQ 131 127 130 0,oM 6 131 0])
 (.cut [6] [] .ret)) (.seq (.reg false [oY 133 .eql 103 0 4,oM 132 133 0])
 (.ite (.t 132) (.seq (.reg false [oF 134 3 3 0,oL 135 134 0,oY 136 .eql 135 0 0,oM 6 136 0])
 (.cut [6] [] .ret)) (.skip)))))))))
 (.cut [] [] (.seq (.reg false [oU 6 0])
 (.cut [6] [] .ret))))))))))⟩
theorem ok78 : okFn Tryd.prog 3 Tryd.f78 a78 = true := by kernel_rfl
def a79 : AFn := ⟨2,9,[.t 4],
    .seq (.reg false [oU 4 0])
 (.seq (.reg false [oM 5 0 0,oM 6 1 0,oC 7 0 90 [.t 5,.t 6] 0,oY 8 .geq 7 0 0,oM 4 8 0])
 (.cut [4] [] .ret))⟩
theorem ok79 : okFn Tryd.prog 3 Tryd.f79 a79 = true := by kernel_rfl
def a80 : AFn := ⟨1,16,[.t 2],
    .seq (.reg false [oB 1 84 0 0,oU 2 0])
 (.seq (.reg false [oF 3 0 1 0,oL 4 3 0,oY 5 .neq 4 0 4,oM 6 5 0,gt 6 (oF 7 0 1 0),gt 6 (oL 8 7 0),gt 6 (oY 9 .neq 8 0 1),gt 6 (oM 10 9 0),gf 10 (oF 11 4 1 0),gf 10 (oL 12 11 0),gf 10 (oY 13 .neq 12 0 (-1)),gt 6 (oP 14 10 13 0),oQ 15 6 14 0,oM 2 15 0])
 (.cut [2] [] .ret))⟩
theorem ok80 : okFn Tryd.prog 3 Tryd.f80 a80 = true := by kernel_rfl
def a81 : AFn := ⟨1,12,[.t 2],
    .seq (.reg false [oB 1 84 0 0,oU 2 0])
 (.seq (.reg false [oF 3 0 1 0,oL 4 3 0,oY 5 .eql 4 0 1,oM 6 5 0,gt 6 (oF 7 1 1 0),gt 6 (oL 8 7 0),gt 6 (oC 9 0 82 [.t 8] 0),gt 6 (oN 10 9 0),oQ 11 6 10 0,oM 2 11 0])
 (.cut [2] [] .ret))⟩
theorem ok81 : okFn Tryd.prog 3 Tryd.f81 a81 = true := by kernel_rfl
def a82 : AFn := ⟨1,9,[.t 2],
    .seq (.reg false [oU 2 0])
 (.seq (.reg false [oM 3 0 0,oY 4 .geq 3 0 1,oM 5 4 0,gt 5 (oM 6 0 0),gt 5 (oY 7 .leq 6 0 17),oQ 8 5 7 0,oM 2 8 0])
 (.cut [2] [] .ret))⟩
theorem ok82 : okFn Tryd.prog 3 Tryd.f82 a82 = true := by kernel_rfl
def a83 : AFn := ⟨1,13,[.cell 2 (some 4)],
    .seq (.reg false [⟨some 2,none,.alloc true 122 [.s ⟨#[]⟩,.i .i64 0,.i .i64 0,.i .i64 0],0⟩])
 (.seq (.seq (.reg false [oM 3 0 0,oY 4 .lss 3 0 1,oM 5 4 0,gf 5 (oM 6 0 0),gf 5 (oY 7 .gtr 6 0 20),oP 8 5 7 0])
 (.ite (.t 8) (.seq (.reg false [⟨some 9,none,.build [.s ⟨#[]⟩,.i .i64 0,.i .i64 0,.i .i64 0] [],0⟩,oS 4 2 9 0])
 (.cut [2] [2] .ret)) (.skip)))
 (.cut [0,2] [2] (.seq (.reg false [oC 10 0 91 [] 0,oM 11 0 0,⟨some 12,none,.idx 4 true 21 (.t 10) (.t 11),0⟩,oS 4 2 12 0])
 (.cut [2] [2] .ret))))⟩
theorem ok83 : okFn Tryd.prog 3 Tryd.f83 a83 = true := by kernel_rfl
def a84L0 : AC := .cut [1,2,17,18,19] [] (.seq (.reg false [oX 20 .lss 19 18 0])
 (.seq (.ite (.t 20) (.skip) (.cut [] [] (.exit 0)))
 (.cut [1,2,17,18,19] [] (.seq (.blk 1 (.seq (.reg false [oM 21 19 0,oA 22 1 17 19 0,oL 23 22 0,oM 7 21 0,oM 8 23 0])
 (.seq (.reg false [oM 24 8 0,oY 25 .lss 24 0 0,oM 26 25 0,gf 26 (oM 27 8 0),gf 26 (oM 28 2 0),gf 26 (oX 29 .geq 27 28 0),oP 30 26 29 0,oM 31 30 0,gf 31 (oM 32 1 0),gf 31 (oM 33 7 0),gf 31 ⟨some 34,none,.slc 1 (.t 32) none (some (.t 33)) none,0⟩,gf 31 (oM 35 8 0),gf 31 (oC 36 0 89 [.t 34,.t 35] 0),oP 37 31 36 0])
 (.ite (.t 37) (.seq (.reg false [oI 6 0 61])
 (.cut [6] [] .ret)) (.skip)))))
 (.cut [1,2,17,18,19] [] (.reg false [oY 38 .add 19 0 1,oM 19 38 0]))))))
def a84 : AFn := ⟨3,39,[.t 6],
    .seq (.reg false [oI 6 0 0])
 (.seq (.seq (.reg false [oM 9 0 0,oC 10 0 92 [.t 9] 0,oY 11 .eql 10 0 0])
 (.ite (.t 11) (.seq (.reg false [oI 6 0 60])
 (.cut [6] [] .ret)) (.skip)))
 (.cut [0,1,2] [] (.seq (.seq (.reg false [oM 12 1 0,oG 13 12 0,oM 14 0 0,oC 15 0 92 [.t 14] 0,oX 16 .neq 13 15 0])
 (.ite (.t 16) (.seq (.reg false [oI 6 0 61])
 (.cut [6] [] .ret)) (.skip)))
 (.cut [1,2] [] (.seq (.seq (.reg false [oM 17 1 0,oG 18 17 0,oI 19 0 0])
 (.blk 0 (.loop a84L0)))
 (.cut [] [] (.seq (.reg false [oI 6 0 0])
 (.cut [6] [] .ret))))))))⟩
theorem ok84 : okFn Tryd.prog 3 Tryd.f84 a84 = true := by kernel_rfl
def a85 : AFn := ⟨1,25,[.t 2],
    .seq (.reg false [⟨some 2,none,.mv (.k (.sl none 0 (.ex 0))),0⟩])
 (.seq (.reg false [⟨some 4,none,.bslice 9 1 2 [.s ⟨#[]⟩,.s ⟨#[]⟩] [(0,1,.k (.s ⟨#[43,88]⟩)),(1,1,.k (.s ⟨#[43,90]⟩))],0⟩,⟨some 5,none,.bslice 9 1 2 [.s ⟨#[]⟩,.s ⟨#[]⟩] [(0,1,.k (.s ⟨#[43,88]⟩)),(1,1,.k (.s ⟨#[45,90]⟩))],0⟩,⟨some 6,none,.bslice 9 1 2 [.s ⟨#[]⟩,.s ⟨#[]⟩] [(0,1,.k (.s ⟨#[45,88]⟩)),(1,1,.k (.s ⟨#[45,90]⟩))],0⟩,⟨some 7,none,.bslice 9 1 2 [.s ⟨#[]⟩,.s ⟨#[]⟩] [(0,1,.k (.s ⟨#[45,88]⟩)),(1,1,.k (.s ⟨#[43,90]⟩))],0⟩,⟨some 8,none,.bslice 9 1 2 [.s ⟨#[]⟩,.s ⟨#[]⟩] [(0,1,.k (.s ⟨#[43,89]⟩)),(1,1,.k (.s ⟨#[43,90]⟩))],0⟩,⟨some 9,none,.bslice 9 1 2 [.s ⟨#[]⟩,.s ⟨#[]⟩] [(0,1,.k (.s ⟨#[45,89]⟩)),(1,1,.k (.s ⟨#[43,90]⟩))],0⟩,⟨some 10,none,.bslice 9 1 2 [.s ⟨#[]⟩,.s ⟨#[]⟩] [(0,1,.k (.s ⟨#[43,88]⟩)),(1,1,.k (.s ⟨#[45,89]⟩))],0⟩,⟨some 11,none,.bslice 9 1 2 [.s ⟨#[]⟩,.s ⟨#[]⟩] [(0,1,.k (.s ⟨#[43,88]⟩)),(1,1,.k (.s ⟨#[43,89]⟩))],0⟩,⟨some 12,none,.bslice 9 1 2 [.s ⟨#[]⟩,.s ⟨#[]⟩] [(0,1,.k (.s ⟨#[45,90]⟩)),(1,1,.k (.s ⟨#[43,88]⟩))],0⟩,⟨some 13,none,.bslice 9 1 2 [.s ⟨#[]⟩,.s ⟨#[]⟩] [(0,1,.k (.s ⟨#[43,90]⟩)),(1,1,.k (.s ⟨#[45,88]⟩))],0⟩,⟨some 14,none,.bslice 9 1 4 [.s ⟨#[]⟩,.s ⟨#[]⟩,.s ⟨#[]⟩,.s ⟨#[]⟩] [(0,1,.k (.s ⟨#[43,88,88]⟩)),(1,1,.k (.s ⟨#[43,90,73]⟩)),(2,1,.k (.s ⟨#[43,73,88]⟩)),(3,1,.k (.s ⟨#[43,90,90]⟩))],0⟩,⟨some 15,none,.bslice 9 1 4 [.s ⟨#[]⟩,.s ⟨#[]⟩,.s ⟨#[]⟩,.s ⟨#[]⟩] [(0,1,.k (.s ⟨#[43,88,89]⟩)),(1,1,.k (.s ⟨#[43,90,73]⟩)),(2,1,.k (.s ⟨#[43,90,88]⟩)),(3,1,.k (.s ⟨#[43,90,90]⟩))],0⟩,⟨some 16,none,.bslice 9 1 4 [.s ⟨#[]⟩,.s ⟨#[]⟩,.s ⟨#[]⟩,.s ⟨#[]⟩] [(0,1,.k (.s ⟨#[43,88,90]⟩)),(1,1,.k (.s ⟨#[43,90,73]⟩)),(2,1,.k (.s ⟨#[43,90,88]⟩)),(3,1,.k (.s ⟨#[43,73,90]⟩))],0⟩,⟨some 17,none,.bslice 9 1 4 [.s ⟨#[]⟩,.s ⟨#[]⟩,.s ⟨#[]⟩,.s ⟨#[]⟩] [(0,1,.k (.s ⟨#[43,73,88]⟩)),(1,1,.k (.s ⟨#[43,73,90]⟩)),(2,1,.k (.s ⟨#[43,88,73]⟩)),(3,1,.k (.s ⟨#[43,90,73]⟩))],0⟩,⟨some 18,none,.bslice 9 1 4 [.s ⟨#[]⟩,.s ⟨#[]⟩,.s ⟨#[]⟩,.s ⟨#[]⟩] [(0,1,.k (.s ⟨#[43,90,89]⟩)),(1,1,.k (.s ⟨#[43,73,90]⟩)),(2,1,.k (.s ⟨#[43,89,90]⟩)),(3,1,.k (.s ⟨#[43,90,73]⟩))],0⟩,⟨some 19,none,.bslice 9 1 4 [.s ⟨#[]⟩,.s ⟨#[]⟩,.s ⟨#[]⟩,.s ⟨#[]⟩] [(0,1,.k (.s ⟨#[45,90,89]⟩)),(1,1,.k (.s ⟨#[43,73,90]⟩)),(2,1,.k (.s ⟨#[45,89,90]⟩)),(3,1,.k (.s ⟨#[43,90,73]⟩))],0⟩,⟨some 20,none,.bslice 9 1 4 [.s ⟨#[]⟩,.s ⟨#[]⟩,.s ⟨#[]⟩,.s ⟨#[]⟩] [(0,1,.k (.s ⟨#[43,90,73]⟩)),(1,1,.k (.s ⟨#[43,88,73]⟩)),(2,1,.k (.s ⟨#[43,73,90]⟩)),(3,1,.k (.s ⟨#[43,73,88]⟩))],0⟩,⟨some 21,none,.build [.sl none 0 (.ex 0),.sl none 0 (.ex 0),.sl none 0 (.ex 0),.sl none 0 (.ex 0),.sl none 0 (.ex 0),.sl none 0 (.ex 0),.sl none 0 (.ex 0),.sl none 0 (.ex 0),.sl none 0 (.ex 0),.sl none 0 (.ex 0),.sl none 0 (.ex 0),.sl none 0 (.ex 0),.sl none 0 (.ex 0),.sl none 0 (.ex 0),.sl none 0 (.ex 0),.sl none 0 (.ex 0),.sl none 0 (.ex 0),.sl none 0 (.ex 0)] [(1,1,.t 4),(2,1,.t 5),(3,1,.t 6),(4,1,.t 7),(5,1,.t 8),(6,1,.t 9),(7,1,.t 10),(8,1,.t 11),(9,1,.t 12),(10,1,.t 13),(11,1,.t 14),(12,1,.t 15),(13,1,.t 16),(14,1,.t 17),(15,1,.t 18),(16,1,.t 19),(17,1,.t 20)],0⟩,⟨some 3,none,.alloc true 135 [.sl none 0 (.ex 0),.sl none 0 (.ex 0),.sl none 0 (.ex 0),.sl none 0 (.ex 0),.sl none 0 (.ex 0),.sl none 0 (.ex 0),.sl none 0 (.ex 0),.sl none 0 (.ex 0),.sl none 0 (.ex 0),.sl none 0 (.ex 0),.sl none 0 (.ex 0),.sl none 0 (.ex 0),.sl none 0 (.ex 0),.sl none 0 (.ex 0),.sl none 0 (.ex 0),.sl none 0 (.ex 0),.sl none 0 (.ex 0),.sl none 0 (.ex 0)],0⟩,oS 18 3 21 0])
 (.seq (.reg false [oM 22 0 0,⟨some 23,none,.iadra 1 18 (.t 3) (.t 22),0⟩,oL 24 23 0,oM 2 24 0])
 (.cutg 3 [2] [] .ret)))⟩
theorem ok85 : okFn Tryd.prog 3 Tryd.f85 a85 = true := by kernel_rfl
def a86 : AFn := ⟨2,23,[.t 4],
    .seq (.reg false [oB 2 71 0 0,oI 4 0 0])
 (.seq (.reg true [oF 7 1 2 0,oL 8 7 1,oM 9 1 0,oX 10 .shr 8 9 7,⟨some 11,none,.bin .and (.t 10) (.k (.i .u64 1)),15⟩,⟨some 12,none,.conv .i64 (.t 11),31⟩,oF 13 2 2 0,oL 14 13 64,oM 15 1 0,oX 16 .shr 14 15 448,⟨some 17,none,.bin .and (.t 16) (.k (.i .u64 1)),960⟩,⟨some 18,none,.conv .i64 (.t 17),1984⟩,oM 5 12 63,oM 6 18 8191])
 (.seq (.reg false [oM 19 5 0,oM 20 6 0,⟨some 21,none,.bin .mul (.k (.i .i64 3)) (.t 20),0⟩,oX 22 .xor 19 21 0,oM 4 22 0])
 (.cut [4] [] .ret)))⟩
theorem ok86 : okFn Tryd.prog 3 Tryd.f86 a86 = true := by kernel_rfl
def a87L0 : AC := .cut [2,3,4,5,6] [2,3,4] (.seq (.seq (.reg false [oM 24 6 0,⟨some 25,none,.bin .neq (.t 24) (.k (.i .u64 0)),0⟩])
 (.ite (.t 25) (.skip) (.cut [2,3,4,5] [2,3,4] (.exit 0))))
 (.cut [2,3,4,5,6] [2,3,4] (.seq (.blk 1 (.seq (.reg false [oM 30 6 0,oC 31 0 93 [.t 30] 0,oM 7 31 0])
 (.seq (.reg true [oJ 32 4 3 0,oM 33 7 0,oC 34 0 86 [.t 32,.t 33] 3,oJ 35 4 2 0,oM 36 7 0,oC 37 0 86 [.t 35,.t 36] 31,oX 38 .sub 34 37 63,oY 39 .add 38 127 3,oY 40 .rem 39 255 3])
 (.blk 2 (.seq (.reg false [oY 42 .eql 40 0 1,oM 41 42 0])
 (.ite (.t 41) (.reg false [oM 43 5 0,oY 44 .add 43 0 1,oM 5 44 0]) (.seq (.reg false [oY 46 .eql 40 0 2,oM 45 46 0])
 (.ite (.t 45) (.reg false [oM 47 5 0,oY 48 .add 47 0 3,oM 5 48 0]) (.skip)))))))))
 (.cut [2,3,4,5,6] [2,3,4] (.reg false [oM 26 6 0,oM 27 6 0,⟨some 28,none,.bin .sub (.t 27) (.k (.i .u64 1)),0⟩,oX 29 .and 26 28 0,oM 6 29 0])))))
def a87 : AFn := ⟨2,64,[.cell 4 (some 4)],
    .seq (.reg false [oB 2 71 0 0,oB 3 71 1 0,⟨some 4,none,.alloc true 71 [.i .i64 0,.i .u64 0,.i .u64 0,.i .i64 0],0⟩])
 (.seq (.reg false [oF 8 3 2 0,oL 9 8 0,oF 10 3 3 0,oL 11 10 0,oX 12 .add 9 11 0,oM 5 12 0])
 (.seq (.seq (.reg false [oF 13 1 2 0,oL 14 13 0,oF 15 2 2 0,oL 16 15 0,oX 17 .or 14 16 0,oF 18 1 3 0,oL 19 18 0,oF 20 2 3 0,oL 21 20 0,oX 22 .or 19 21 0,oX 23 .and 17 22 0,oM 6 23 0])
 (.blk 0 (.loop a87L0)))
 (.cut [2,3,4,5] [2,3,4] (.seq (.reg false [oF 49 0 2 0,oL 50 49 0,oF 51 1 2 0,oL 52 51 0,oF 53 1 3 0,oL 54 53 0,oX 55 .xor 52 54 0,oF 56 2 2 0,oL 57 56 0,oF 58 2 3 0,oL 59 58 0,oX 60 .xor 57 59 0,oM 61 5 0,oY 62 .rem 61 0 4,⟨some 63,none,.build [.i .i64 0,.i .u64 0,.i .u64 0,.i .i64 0] [(0,1,.t 50),(1,1,.t 55),(2,1,.t 60),(3,1,.t 62)],0⟩,oS 4 4 63 0])
 (.cut [4] [4] .ret)))))⟩
theorem ok87 : okFn Tryd.prog 3 Tryd.f87 a87 = true := by kernel_rfl
def a88L0 : AC := .cut [0,6,7,17,18,19] [6,7] (.seq (.reg false [oX 20 .lss 19 18 0])
 (.seq (.ite (.t 20) (.skip) (.cut [6,7] [6,7] (.exit 0)))
 (.cut [0,6,7,17,18,19] [6,7] (.seq (.blk 1 (.seq (.reg false [oM 21 19 0,oA 22 1 17 19 0,oL 23 22 0,oM 8 21 0,oM 9 23 0])
 (.seq (.reg false [oM 24 0 0,oM 25 8 0,oY 26 .add 25 0 1,⟨some 27,none,.idxs (.t 24) (.t 26),0⟩,⟨some 28,none,.call 0 (.k (.fn (.func 94) [] [])) [.k (.s ⟨#[73,88,89,90]⟩),.t 27],0⟩,oM 10 28 0])
 (.seq (.seq (.reg false [oM 29 10 0,oY 30 .eql 29 0 1,oM 31 30 0,gf 31 (oM 32 10 0),gf 31 (oY 33 .eql 32 0 2),oP 34 31 33 0])
 (.ite (.t 34) (.reg true [oF 35 1 7 0,oL 36 35 1,oM 37 9 0,⟨some 38,none,.bin .shl (.k (.i .u64 1)) (.t 37),4⟩,oX 39 .or 36 38 15,oF 40 1 7 31,oS 1 40 39 63]) (.skip)))
 (.cut [0,6,7,9,10,17,18,19] [6,7] (.seq (.reg false [oM 41 10 0,oY 42 .geq 41 0 2])
 (.ite (.t 42) (.reg true [oF 43 2 7 0,oL 44 43 1,oM 45 9 0,⟨some 46,none,.bin .shl (.k (.i .u64 1)) (.t 45),4⟩,oX 47 .or 44 46 15,oF 48 2 7 31,oS 1 48 47 63]) (.skip))))))))
 (.cut [0,6,7,17,18,19] [6,7] (.reg false [oY 49 .add 19 0 1,oM 19 49 0]))))))
def a88 : AFn := ⟨3,51,[.cell 6 (some 4)],
    .seq (.reg false [⟨some 6,none,.alloc true 71 [.i .i64 0,.i .u64 0,.i .u64 0,.i .i64 0],0⟩])
 (.seq (.reg false [oM 11 1 0,⟨some 12,none,.build [.i .i64 0,.i .u64 0,.i .u64 0,.i .i64 0] [(0,1,.t 11)],0⟩,⟨some 7,none,.alloc true 71 [.i .i64 0,.i .u64 0,.i .u64 0,.i .i64 0],0⟩,oS 4 7 12 0])
 (.seq (.seq (.reg false [oM 13 0 0,⟨some 14,none,.idxs (.t 13) (.k (.i .i64 0)),0⟩,⟨some 15,none,.bin .eql (.t 14) (.k (.i .u8 45)),0⟩])
 (.ite (.t 15) (.reg false [oF 16 3 7 0,⟨none,none,.store 1 (.t 16) (.k (.i .i64 2)),0⟩]) (.skip)))
 (.cut [0,2,6,7] [6,7] (.seq (.seq (.reg false [oM 17 2 0,oG 18 17 0,oI 19 0 0])
 (.blk 0 (.loop a88L0)))
 (.cut [6,7] [6,7] (.seq (.reg false [oJ 50 4 7 0,oS 4 6 50 0])
 (.cut [6] [6] .ret)))))))⟩
theorem ok88 : okFn Tryd.prog 3 Tryd.f88 a88 = true := by kernel_rfl
def a89 : AFn := ⟨2,9,[.t 4],
    .seq (.reg false [oU 4 0])
 (.seq (.reg false [oM 5 0 0,oM 6 1 0,oC 7 0 95 [.t 5,.t 6] 0,oY 8 .geq 7 0 0,oM 4 8 0])
 (.cut [4] [] .ret))⟩
theorem ok89 : okFn Tryd.prog 3 Tryd.f89 a89 = true := by kernel_rfl
def a90L0 : AC := .cut [0,1,7,8] [] (.seq (.reg false [oX 9 .lss 8 7 0])
 (.seq (.ite (.t 9) (.skip) (.cut [] [] (.exit 0)))
 (.cut [0,1,7,8] [] (.seq (.blk 1 (.seq (.reg false [oM 10 8 0,oM 5 10 0])
 (.seq (.reg false [oM 11 1 0,oM 12 0 0,oM 13 5 0,oA 14 6 12 13 0,oJ 15 6 14 0,⟨some 16,none,.call 0 (.t 11) [.t 15],0⟩])
 (.ite (.t 16) (.seq (.reg false [oM 17 5 0,oM 4 17 0])
 (.cut [4] [] .ret)) (.skip)))))
 (.cut [0,1,7,8] [] (.reg false [oY 18 .add 8 0 1,oM 8 18 0]))))))
def a90 : AFn := ⟨2,19,[.t 4],
    .seq (.reg false [oI 4 0 0])
 (.seq (.seq (.reg false [oM 6 0 0,oG 7 6 0,oI 8 0 0])
 (.blk 0 (.loop a90L0)))
 (.cut [] [] (.seq (.reg false [oI 4 0 (-1)])
 (.cut [4] [] .ret))))⟩
theorem ok90 : okFn Tryd.prog 3 Tryd.f90 a90 = true := by kernel_rfl
def a91 : AFn := ⟨0,22,[.cell 0 (some 84)],
    .seq (.reg false [⟨some 0,none,.alloc true 132 [.s ⟨#[]⟩,.i .i64 0,.i .i64 0,.i .i64 0,.s ⟨#[]⟩,.i .i64 0,.i .i64 0,.i .i64 0,.s ⟨#[]⟩,.i .i64 0,.i .i64 0,.i .i64 0,.s ⟨#[]⟩,.i .i64 0,.i .i64 0,.i .i64 0,.s ⟨#[]⟩,.i .i64 0,.i .i64 0,.i .i64 0,.s ⟨#[]⟩,.i .i64 0,.i .i64 0,.i .i64 0,.s ⟨#[]⟩,.i .i64 0,.i .i64 0,.i .i64 0,.s ⟨#[]⟩,.i .i64 0,.i .i64 0,.i .i64 0,.s ⟨#[]⟩,.i .i64 0,.i .i64 0,.i .i64 0,.s ⟨#[]⟩,.i .i64 0,.i .i64 0,.i .i64 0,.s ⟨#[]⟩,.i .i64 0,.i .i64 0,.i .i64 0,.s ⟨#[]⟩,.i .i64 0,.i .i64 0,.i .i64 0,.s ⟨#[]⟩,.i .i64 0,.i .i64 0,.i .i64 0,.s ⟨#[]⟩,.i .i64 0,.i .i64 0,.i .i64 0,.s ⟨#[]⟩,.i .i64 0,.i .i64 0,.i .i64 0,.s ⟨#[]⟩,.i .i64 0,.i .i64 0,.i .i64 0,.s ⟨#[]⟩,.i .i64 0,.i .i64 0,.i .i64 0,.s ⟨#[]⟩,.i .i64 0,.i .i64 0,.i .i64 0,.s ⟨#[]⟩,.i .i64 0,.i .i64 0,.i .i64 0,.s ⟨#[]⟩,.i .i64 0,.i .i64 0,.i .i64 0,.s ⟨#[]⟩,.i .i64 0,.i .i64 0,.i .i64 0],0⟩])
 (.seq (.reg false [⟨some 1,none,.build [.s ⟨#[]⟩,.i .i64 0,.i .i64 0,.i .i64 0] [(0,1,.k (.s ⟨#[105,100]⟩)),(1,1,.k (.i .i64 1)),(2,1,.k (.i .i64 0)),(3,1,.k (.i .i64 1))],0⟩,⟨some 2,none,.build [.s ⟨#[]⟩,.i .i64 0,.i .i64 0,.i .i64 0] [(0,1,.k (.s ⟨#[120]⟩)),(1,1,.k (.i .i64 1)),(2,1,.k (.i .i64 0)),(3,1,.k (.i .i64 2))],0⟩,⟨some 3,none,.build [.s ⟨#[]⟩,.i .i64 0,.i .i64 0,.i .i64 0] [(0,1,.k (.s ⟨#[121]⟩)),(1,1,.k (.i .i64 1)),(2,1,.k (.i .i64 0)),(3,1,.k (.i .i64 3))],0⟩,⟨some 4,none,.build [.s ⟨#[]⟩,.i .i64 0,.i .i64 0,.i .i64 0] [(0,1,.k (.s ⟨#[122]⟩)),(1,1,.k (.i .i64 1)),(2,1,.k (.i .i64 0)),(3,1,.k (.i .i64 4))],0⟩,⟨some 5,none,.build [.s ⟨#[]⟩,.i .i64 0,.i .i64 0,.i .i64 0] [(0,1,.k (.s ⟨#[115]⟩)),(1,1,.k (.i .i64 1)),(2,1,.k (.i .i64 0)),(3,1,.k (.i .i64 6))],0⟩,⟨some 6,none,.build [.s ⟨#[]⟩,.i .i64 0,.i .i64 0,.i .i64 0] [(0,1,.k (.s ⟨#[115,100,103]⟩)),(1,1,.k (.i .i64 1)),(2,1,.k (.i .i64 0)),(3,1,.k (.i .i64 5))],0⟩,⟨some 7,none,.build [.s ⟨#[]⟩,.i .i64 0,.i .i64 0,.i .i64 0] [(0,1,.k (.s ⟨#[115,120]⟩)),(1,1,.k (.i .i64 1)),(2,1,.k (.i .i64 0)),(3,1,.k (.i .i64 8))],0⟩,⟨some 8,none,.build [.s ⟨#[]⟩,.i .i64 0,.i .i64 0,.i .i64 0] [(0,1,.k (.s ⟨#[115,120,100,103]⟩)),(1,1,.k (.i .i64 1)),(2,1,.k (.i .i64 0)),(3,1,.k (.i .i64 7))],0⟩,⟨some 9,none,.build [.s ⟨#[]⟩,.i .i64 0,.i .i64 0,.i .i64 0] [(0,1,.k (.s ⟨#[115,121]⟩)),(1,1,.k (.i .i64 1)),(2,1,.k (.i .i64 0)),(3,1,.k (.i .i64 10))],0⟩,⟨some 10,none,.build [.s ⟨#[]⟩,.i .i64 0,.i .i64 0,.i .i64 0] [(0,1,.k (.s ⟨#[115,121,100,103]⟩)),(1,1,.k (.i .i64 1)),(2,1,.k (.i .i64 0)),(3,1,.k (.i .i64 9))],0⟩,⟨some 11,none,.build [.s ⟨#[]⟩,.i .i64 0,.i .i64 0,.i .i64 0] [(0,1,.k (.s ⟨#[99,120]⟩)),(1,1,.k (.i .i64 2)),(2,1,.k (.i .i64 1)),(3,1,.k (.i .i64 11))],0⟩,⟨some 12,none,.build [.s ⟨#[]⟩,.i .i64 0,.i .i64 0,.i .i64 0] [(0,1,.k (.s ⟨#[99,121]⟩)),(1,1,.k (.i .i64 2)),(2,1,.k (.i .i64 1)),(3,1,.k (.i .i64 12))],0⟩,⟨some 13,none,.build [.s ⟨#[]⟩,.i .i64 0,.i .i64 0,.i .i64 0] [(0,1,.k (.s ⟨#[99,122]⟩)),(1,1,.k (.i .i64 2)),(2,1,.k (.i .i64 0)),(3,1,.k (.i .i64 13))],0⟩,⟨some 14,none,.build [.s ⟨#[]⟩,.i .i64 0,.i .i64 0,.i .i64 0] [(0,1,.k (.s ⟨#[115,119,97,112]⟩)),(1,1,.k (.i .i64 2)),(2,1,.k (.i .i64 0)),(3,1,.k (.i .i64 14))],0⟩,⟨some 15,none,.build [.s ⟨#[]⟩,.i .i64 0,.i .i64 0,.i .i64 0] [(0,1,.k (.s ⟨#[105,115,119,97,112]⟩)),(1,1,.k (.i .i64 2)),(2,1,.k (.i .i64 0)),(3,1,.k (.i .i64 16))],0⟩,⟨some 16,none,.build [.s ⟨#[]⟩,.i .i64 0,.i .i64 0,.i .i64 0] [(0,1,.k (.s ⟨#[105,115,119,97,112,100,103]⟩)),(1,1,.k (.i .i64 2)),(2,1,.k (.i .i64 0)),(3,1,.k (.i .i64 15))],0⟩,⟨some 17,none,.build [.s ⟨#[]⟩,.i .i64 0,.i .i64 0,.i .i64 0] [(0,1,.k (.s ⟨#[104,104]⟩)),(1,1,.k (.i .i64 2)),(2,1,.k (.i .i64 0)),(3,1,.k (.i .i64 17))],0⟩,⟨some 18,none,.build [.s ⟨#[]⟩,.i .i64 0,.i .i64 0,.i .i64 0] [(0,1,.k (.s ⟨#[99,99,120]⟩)),(1,1,.k (.i .i64 3)),(2,1,.k (.i .i64 2)),(3,1,.k (.i .i64 18))],0⟩,⟨some 19,none,.build [.s ⟨#[]⟩,.i .i64 0,.i .i64 0,.i .i64 0] [(0,1,.k (.s ⟨#[99,99,122]⟩)),(1,1,.k (.i .i64 3)),(2,1,.k (.i .i64 0)),(3,1,.k (.i .i64 19))],0⟩,⟨some 20,none,.build [.s ⟨#[]⟩,.i .i64 0,.i .i64 0,.i .i64 0] [(0,1,.k (.s ⟨#[99,115,119,97,112]⟩)),(1,1,.k (.i .i64 3)),(2,1,.k (.i .i64 1)),(3,1,.k (.i .i64 20))],0⟩,⟨some 21,none,.build [.s ⟨#[]⟩,.i .i64 0,.i .i64 0,.i .i64 0,.s ⟨#[]⟩,.i .i64 0,.i .i64 0,.i .i64 0,.s ⟨#[]⟩,.i .i64 0,.i .i64 0,.i .i64 0,.s ⟨#[]⟩,.i .i64 0,.i .i64 0,.i .i64 0,.s ⟨#[]⟩,.i .i64 0,.i .i64 0,.i .i64 0,.s ⟨#[]⟩,.i .i64 0,.i .i64 0,.i .i64 0,.s ⟨#[]⟩,.i .i64 0,.i .i64 0,.i .i64 0,.s ⟨#[]⟩,.i .i64 0,.i .i64 0,.i .i64 0,.s ⟨#[]⟩,.i .i64 0,.i .i64 0,.i .i64 0,.s ⟨#[]⟩,.i .i64 0,.i .i64 0,.i .i64 0,.s ⟨#[]⟩,.i .i64 0,.i .i64 0,.i .i64 0,.s ⟨#[]⟩,.i .i64 0,.i .i64 0,.i .i64 0,.s ⟨#[]⟩,.i .i64 0,.i .i64 0,.i .i64 0,.s ⟨#[]⟩,.i .i64 0,.i .i64 0,.i .i64 0,.s ⟨#[]⟩,.i .i64 0,.i .i64 0,.i .i64 0,.s ⟨#[]⟩,.i .i64 0,.i .i64 0,.i .i64 0,.s ⟨#[]⟩,.i .i64 0,.i .i64 0,.i .i64 0,.s ⟨#[]⟩,.i .i64 0,.i .i64 0,.i .i64 0,.s ⟨#[]⟩,.i .i64 0,.i .i64 0,.i .i64 0,.s ⟨#[]⟩,.i .i64 0,.i .i64 0,.i .i64 0,.s ⟨#[]⟩,.i .i64 0,.i .i64 0,.i .i64 0] [(4,4,.t 1),(8,4,.t 2),(12,4,.t 3),(16,4,.t 4),(20,4,.t 5),(24,4,.t 6),(28,4,.t 7),(32,4,.t 8),(36,4,.t 9),(40,4,.t 10),(44,4,.t 11),(48,4,.t 12),(52,4,.t 13),(56,4,.t 14),(60,4,.t 15),(64,4,.t 16),(68,4,.t 17),(72,4,.t 18),(76,4,.t 19),(80,4,.t 20)],0⟩,oS 84 0 21 0])
 (.cut [0] [0] .ret))⟩
theorem ok91 : okFn Tryd.prog 3 Tryd.f91 a91 = true := by kernel_rfl
def a92 : AFn := ⟨1,6,[.t 2],
    .seq (.reg false [oI 2 0 0])
 (.seq (.reg false [oM 3 0 0,oC 4 0 83 [.t 3] 0,⟨some 5,none,.fld 1 none (.t 4),0⟩,oM 2 5 0])
 (.cut [2] [] .ret))⟩
theorem ok92 : okFn Tryd.prog 3 Tryd.f92 a92 = true := by kernel_rfl
def a93 : AFn := ⟨1,14,[.t 2],
    .seq (.reg false [oI 2 0 0])
 (.seq (.seq (.reg false [oM 3 0 0,⟨some 4,none,.bin .eql (.t 3) (.k (.i .u64 0)),0⟩])
 (.ite (.t 4) (.seq (.reg false [oI 2 0 64])
 (.cut [2] [] .ret)) (.skip)))
 (.cut [0] [] (.seq (.reg false [oM 5 0 0,oM 6 0 0,⟨some 7,none,.un .neg (.t 6),0⟩,oX 8 .and 5 7 0,⟨some 9,none,.bin .mul (.t 8) (.k (.i .u64 285870213051353865)),0⟩,⟨some 10,none,.bin .shr (.t 9) (.k (.i .u64 58)),0⟩,⟨some 11,none,.iadra 1 64 (.k (.p (some (1,0)))) (.t 10),0⟩,oL 12 11 0,⟨some 13,none,.conv .i64 (.t 12),0⟩,oM 2 13 0])
 (.cut [2] [] .ret))))⟩
theorem ok93 : okFn Tryd.prog 3 Tryd.f93 a93 = true := by kernel_rfl
def a94 : AFn := ⟨2,8,[.t 4],
    .seq (.reg false [oI 4 0 0])
 (.seq (.reg false [oM 5 0 0,oM 6 1 0,oC 7 0 96 [.t 5,.t 6] 0,oM 4 7 0])
 (.cut [4] [] .ret))⟩
theorem ok94 : okFn Tryd.prog 3 Tryd.f94 a94 = true := by kernel_rfl
def a95L0 : AC := .cut [0,1,7,8] [] (.seq (.reg false [oX 9 .lss 8 7 0])
 (.seq (.ite (.t 9) (.skip) (.cut [] [] (.exit 0)))
 (.cut [0,1,7,8] [] (.seq (.blk 1 (.seq (.reg false [oM 10 8 0,oM 5 10 0])
 (.seq (.reg false [oM 11 1 0,oM 12 0 0,oM 13 5 0,oA 14 1 12 13 0,oL 15 14 0,oX 16 .eql 11 15 0])
 (.ite (.t 16) (.seq (.reg false [oM 17 5 0,oM 4 17 0])
 (.cut [4] [] .ret)) (.skip)))))
 (.cut [0,1,7,8] [] (.reg false [oY 18 .add 8 0 1,oM 8 18 0]))))))
def a95 : AFn := ⟨2,19,[.t 4],
    .seq (.reg false [oI 4 0 0])
 (.seq (.seq (.reg false [oM 6 0 0,oG 7 6 0,oI 8 0 0])
 (.blk 0 (.loop a95L0)))
 (.cut [] [] (.seq (.reg false [oI 4 0 (-1)])
 (.cut [4] [] .ret))))⟩
theorem ok95 : okFn Tryd.prog 3 Tryd.f95 a95 = true := by kernel_rfl
end Go.Proofs.YtlgmimclpmolmaaDoor.Ab
