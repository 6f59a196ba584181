/- The functions,for the abstract machine. Written by gen.py. No condition. -/
import Derived.Test.YtchgkmdonhdfeaaGreatDoorAC
import Derived.Test.YtchgkmdonhdfeaaGreatDoorProg
set_option linter.unusedVariables false
set_option maxRecDepth 100000
namespace Go.Proofs.YtchgkmdonhdfeaaGreatDoor.Ab
open Go
def oM (d x m : Nat) : AOper := ⟨some d, none, .mv (.t x), m⟩
def oL (d x m : Nat) : AOper := ⟨some d, none, .load none (.t x), m⟩
def oJ (d t x m : Nat) : AOper := ⟨some d, none, .load (some t) (.t x), m⟩
def oF (d i x m : Nat) : AOper := ⟨some d, none, .fadr i (.t x), m⟩
def oS (t x y m : Nat) : AOper := ⟨none, none, .store t (.t x) (.t y), m⟩
def oA (d t x y m : Nat) : AOper := ⟨some d, none, .iadr t (.t x) (.t y), m⟩
def oP (d x y m : Nat) : AOper := ⟨some d, none, .pick (.t x) (.k (.b true)) (.t y), m⟩
def oE (d x i m : Nat) : AOper := ⟨some d, none, .ext (.t x) i, m⟩
def oB (d t x m : Nat) : AOper := ⟨some d, none, .box true t (.t x), m⟩
def oQ (d x y m : Nat) : AOper := ⟨some d, none, .pick (.t x) (.t y) (.k (.b false)), m⟩
def oN (d x m : Nat) : AOper := ⟨some d, none, .un .not (.t x), m⟩
def oT (d m : Nat) : AOper := ⟨some d, none, .mv (.k (.b true)), m⟩
def oU (d m : Nat) : AOper := ⟨some d, none, .mv (.k (.b false)), m⟩
def oG (d x m : Nat) : AOper := ⟨some d, none, .len false (.t x), m⟩
def oI (d m : Nat) (z : Int) : AOper := ⟨some d, none, .mv (.k (.i .i64 z)), m⟩
def oC (d g f : Nat) (l : List AX) (m : Nat) : AOper := ⟨some d, none, .call g (.k (.fn (.func f) [] [])) l, m⟩
def oX (d : Nat) (o : BinOp) (x y m : Nat) : AOper := ⟨some d, none, .bin o (.t x) (.t y), m⟩
def oY (d : Nat) (o : BinOp) (x m : Nat) (z : Int) : AOper := ⟨some d, none, .bin o (.t x) (.k (.i .i64 z)), m⟩
def gf (g : Nat) : AOper → AOper | ⟨d, _, o, m⟩ => ⟨d, some (g, false), o, m⟩
def gt (g : Nat) : AOper → AOper | ⟨d, _, o, m⟩ => ⟨d, some (g, true), o, m⟩
def a3 : AFn := ⟨1,37,[.t 2],
    .seq (.reg false [oB 1 24 0 0,oU 2 0])
 (.seq (.reg false [oJ 8 3 1 0,oC 9 0 6 [.t 8] 0,⟨some 3,none,.alloc true 24 [.i .i64 0,.sl none 0 (.ex 0),.sl none 0 (.ex 0)],0⟩,oS 3 3 9 0])
 (.seq (.reg false [oJ 11 3 3 0,oC 12 0 7 [.t 11] 0,oM 10 12 0,oE 13 10 0 0,oE 14 10 1 0,oM 4 13 0,oM 5 14 0])
 (.seq (.reg false [oJ 16 3 1 0,oC 17 0 8 [.t 16] 0,oM 15 17 0,oE 18 15 0 0,oE 19 15 1 0,oM 6 18 0,oM 7 19 0])
 (.seq (.reg false [oM 20 4 0,oC 21 0 10 [.t 20] 0,oM 22 6 0,oC 23 0 9 [.t 21,.t 22] 0,oM 24 23 0,gt 24 (oM 25 5 0),gt 24 (oM 26 7 0),gt 24 (oX 27 .eql 25 26 0),oQ 28 24 27 0,oM 29 28 0,gt 29 (oJ 30 3 3 0),gt 29 (oJ 31 3 1 0),gt 29 (oC 32 0 11 [.t 30,.t 31] 0),oQ 33 29 32 0,oM 34 33 0,gt 34 (oC 35 0 12 [] 0),oQ 36 34 35 0,oM 2 36 0])
 (.cut [2] [] .ret)))))⟩
theorem ok3 : okFn Tryz.prog 3 Tryz.f3 a3 = true := by kernel_rfl
def a6 : AFn := ⟨1,20,[.cell 2 (some 3)],
    .seq (.reg false [oB 1 24 0 0,⟨some 2,none,.alloc true 24 [.i .i64 0,.sl none 0 (.ex 0),.sl none 0 (.ex 0)],0⟩])
 (.seq (.reg false [oF 4 0 1 0,oL 5 4 0,⟨some 6,none,.build [.i .i64 0,.sl none 0 (.ex 0),.sl none 0 (.ex 0)] [(0,1,.t 5)],0⟩,⟨some 3,none,.alloc true 24 [.i .i64 0,.sl none 0 (.ex 0),.sl none 0 (.ex 0)],0⟩,oS 3 3 6 0])
 (.seq (.reg false [oF 7 1 3 0,oL 8 7 0,oF 9 1 1 0,oL 10 9 0,⟨some 11,none,.app 71 4 32 (.t 8) (.t 10),0⟩,oF 12 1 3 0,oS 1 12 11 0])
 (.seq (.reg false [oF 13 2 3 0,oL 14 13 0,oF 15 2 1 0,oL 16 15 0,⟨some 17,none,.app 71 4 32 (.t 14) (.t 16),0⟩,oF 18 2 3 0,oS 1 18 17 0])
 (.seq (.reg false [oJ 19 3 3 0,oS 3 2 19 0])
 (.cutg 3 [2] [2] .ret)))))⟩
theorem ok6 : okFn Tryz.prog 3 Tryz.f6 a6 = true := by kernel_rfl
def a7L0 : AC := .cutg 3 [1,5,9,24,25,36,37,38,48,49,50] [1] (.seq (.reg false [oX 51 .lss 50 49 0])
 (.seq (.ite (.t 51) (.skip) (.cutg 3 [1,5,24,25,36,37,38] [1] (.exit 5)))
 (.cutg 3 [1,5,9,24,25,36,37,38,48,49,50] [1] (.seq (.blk 6 (.seq (.reg false [oM 52 50 0,oA 53 1 48 50 0,oL 54 53 0,oM 11 52 0,oM 12 54 0])
 (.seq (.reg false [oM 55 12 0,oM 56 9 0,oM 57 11 0,oA 58 1 56 57 0,oL 59 58 0,oC 60 0 25 [.t 55,.t 59] 0,oM 13 60 0])
 (.reg false [oM 61 5 0,oM 62 11 0,oM 63 13 0,⟨some 64,none,.pop .re [.t 63],0⟩,⟨some 65,none,.pop (.fbin .mul) [.t 64,.k (.f .f64 4602678819172646912)],0⟩,oM 66 13 0,⟨some 67,none,.pop .im [.t 66],0⟩,⟨some 68,none,.pop (.fbin .mul) [.t 67,.k (.f .f64 4602678819172646912)],0⟩,⟨some 69,none,.pop .mk [.t 65,.t 68],0⟩,oA 70 1 61 62 0,oS 1 70 69 0]))))
 (.cutg 3 [1,5,9,24,25,36,37,38,48,49,50] [1] (.reg false [oY 71 .add 50 0 1,oM 50 71 0]))))))
def a7L1 : AC := .cutg 3 [1,5,24,25,36,37,38] [1] (.seq (.reg false [oX 39 .lss 38 37 0])
 (.seq (.ite (.t 39) (.skip) (.cutg 3 [1,5,24,25] [1] (.exit 3)))
 (.cutg 3 [1,5,24,25,36,37,38] [1] (.seq (.blk 4 (.seq (.reg false [oA 40 4 36 38 0,oJ 41 4 40 0,⟨some 8,none,.alloc true 71 [.i .i64 0,.i .u64 0,.i .u64 0,.i .i64 0],0⟩,oS 4 8 41 0])
 (.seq (.reg false [oJ 43 4 8 0,oM 44 5 0,oC 45 0 24 [.t 43,.t 44] 0,oM 42 45 0,oE 46 42 0 0,oE 47 42 1 0,oM 9 46 0,oM 10 47 0])
 (.seq (.reg false [oM 48 5 0,oG 49 48 0,oI 50 0 0])
 (.blk 5 (.loop a7L0))))))
 (.cutg 3 [1,5,24,25,36,37,38] [1] (.reg false [oY 72 .add 38 0 1,oM 38 72 0]))))))
def a7L2 : AC := .cutg 3 [1,24,25] [1] (.seq (.reg false [oX 26 .lss 25 24 0])
 (.seq (.ite (.t 26) (.skip) (.cutg 3 [] [] (.exit 1)))
 (.cutg 3 [1,24,25] [1] (.seq (.blk 2 (.seq (.reg false [oM 27 25 0,oM 4 27 0])
 (.seq (.reg false [oF 29 0 1 0,oL 30 29 0,oM 31 4 0,oC 32 1 23 [.t 30,.t 31] 0,oM 28 32 0,oE 33 28 0 0,oE 34 28 1 0,oM 5 33 0,oM 6 34 0])
 (.seq (.seq (.reg false [oF 35 1 1 0,oL 36 35 0,oG 37 36 0,oI 38 0 0])
 (.blk 3 (.loop a7L1)))
 (.cutg 3 [1,5,24,25] [1] (.seq (.reg false [oM 73 5 0,⟨some 74,none,.call 0 (.k (.fn (.func 26) [] [])) [.t 73,.k (.fn (.func 27) [] [])],0⟩])
 (.ite (.t 74) (.seq (.reg false [oM 75 5 0,oM 2 75 0,oI 3 0 0])
 (.cutg 3 [2,3] [] .ret)) (.skip))))))))
 (.cutg 3 [1,24,25] [1] (.reg false [oY 76 .add 25 0 1,oM 25 76 0]))))))
def a7 : AFn := ⟨1,77,[.t 2,.t 3],
    .seq (.reg false [oB 1 24 0 0,⟨some 2,none,.mv (.k (.sl none 0 (.ex 0))),0⟩,oI 3 0 0])
 (.seq (.blk 0 (.seq (.reg false [oJ 15 3 1 0,oC 16 0 22 [.t 15] 0,oY 17 .neq 16 0 0,oM 14 17 0])
 (.ite (.t 14) (.seq (.reg false [⟨some 2,none,.mv (.k (.sl none 0 (.ex 0))),0⟩,oI 3 0 140])
 (.cutg 3 [2,3] [] .ret)) (.seq (.reg false [oF 19 0 1 0,oL 20 19 0,oY 21 .gtr 20 0 12,oM 18 21 0])
 (.ite (.t 18) (.seq (.reg false [⟨some 2,none,.mv (.k (.sl none 0 (.ex 0))),0⟩,oI 3 0 150])
 (.cutg 3 [2,3] [] .ret)) (.skip))))))
 (.cutg 3 [1] [1] (.seq (.seq (.reg false [oF 22 0 1 0,oL 23 22 0,⟨some 24,none,.bin .shl (.k (.i .i64 1)) (.t 23),0⟩,oI 25 0 0])
 (.blk 1 (.loop a7L2)))
 (.cutg 3 [] [] (.seq (.reg false [⟨some 2,none,.mv (.k (.sl none 0 (.ex 0))),0⟩,oI 3 0 150])
 (.cutg 3 [2,3] [] .ret))))))⟩
theorem ok7 : okFn Tryz.prog 3 Tryz.f7 a7 = true := by kernel_rfl
def a8L0 : AC := .cut [1,4,5,7] [1] (.seq (.seq (.reg false [oM 29 7 0,oF 30 0 1 0,oL 31 30 0,oX 32 .lss 29 31 0,oM 33 32 0,gt 33 (oM 34 5 0),gt 33 (oC 35 0 30 [.t 34] 0),gt 33 (oN 36 35 0),oQ 37 33 36 0])
 (.ite (.t 37) (.skip) (.cut [1,4,5] [1] (.exit 2))))
 (.cut [1,4,5,7] [1] (.seq (.blk 3 (.reg false [oF 40 1 1 0,oL 41 40 0,oM 42 7 0,oA 43 4 41 42 0,oJ 44 4 43 0,oM 45 5 0,oC 46 0 31 [.t 44,.t 45] 0,oM 5 46 0]))
 (.cut [1,4,5,7] [1] (.reg false [oM 38 7 0,oY 39 .add 38 0 1,oM 7 39 0])))))
def a8L1 : AC := .cut [1,4] [1] (.seq (.seq (.reg false [oM 14 4 0,oF 15 0 1 0,oL 16 15 0,⟨some 17,none,.conv .u64 (.t 16),0⟩,⟨some 18,none,.bin .shl (.k (.i .i64 1)) (.t 17),0⟩,oX 19 .lss 14 18 0])
 (.ite (.t 19) (.skip) (.cut [] [] (.exit 0))))
 (.cut [1,4] [1] (.seq (.blk 1 (.seq (.reg false [oF 23 0 1 0,oL 24 23 0,oM 25 4 0,oC 26 0 29 [.t 24,.t 25] 0,oM 22 26 0,oE 27 22 0 0,oE 28 22 1 0,oM 5 27 0,oM 6 28 0])
 (.seq (.seq (.reg false [oI 7 0 0])
 (.blk 2 (.loop a8L0)))
 (.cut [1,4,5] [1] (.seq (.reg false [oM 47 5 0,oC 48 0 30 [.t 47] 0,oN 49 48 0])
 (.ite (.t 49) (.seq (.reg false [oM 50 5 0,oM 2 50 0,oI 3 0 0])
 (.cut [2,3] [] .ret)) (.skip)))))))
 (.cut [1,4] [1] (.reg false [oM 20 4 0,oY 21 .add 20 0 1,oM 4 21 0])))))
def a8 : AFn := ⟨1,51,[.t 2,.t 3],
    .seq (.reg false [oB 1 24 0 0,⟨some 2,none,.mv (.k (.sl none 0 (.ex 0))),0⟩,oI 3 0 0])
 (.seq (.seq (.reg false [oJ 8 3 1 0,oC 9 0 28 [.t 8] 0,oN 10 9 0])
 (.ite (.t 10) (.seq (.reg false [⟨some 2,none,.mv (.k (.sl none 0 (.ex 0))),0⟩,oI 3 0 140])
 (.cut [2,3] [] .ret)) (.skip)))
 (.cut [1] [1] (.seq (.seq (.reg false [oF 11 0 1 0,oL 12 11 0,oY 13 .gtr 12 0 12])
 (.ite (.t 13) (.seq (.reg false [⟨some 2,none,.mv (.k (.sl none 0 (.ex 0))),0⟩,oI 3 0 150])
 (.cut [2,3] [] .ret)) (.skip)))
 (.cut [1] [1] (.seq (.seq (.reg false [oI 4 0 0])
 (.blk 0 (.loop a8L1)))
 (.cut [] [] (.seq (.reg false [⟨some 2,none,.mv (.k (.sl none 0 (.ex 0))),0⟩,oI 3 0 150])
 (.cut [2,3] [] .ret))))))))⟩
theorem ok8 : okFn Tryz.prog 3 Tryz.f8 a8 = true := by kernel_rfl
def a9L0 : AC := .cut [0,1,5] [] (.seq (.seq (.reg false [oM 11 5 0,oM 12 0 0,oG 13 12 0,oX 14 .lss 11 13 0])
 (.ite (.t 14) (.skip) (.cut [] [] (.exit 0))))
 (.cut [0,1,5] [] (.seq (.blk 1 (.seq (.reg true [oM 17 0 0,oM 18 5 0,oA 19 2 17 18 3,oJ 20 2 19 7,oM 21 1 0,oM 22 5 0,oA 23 2 21 22 48,oJ 24 2 23 112,oC 25 0 32 [.t 20,.t 24] 255,oN 26 25 511])
 (.ite (.t 26) (.seq (.reg false [oU 4 0])
 (.cut [4] [] .ret)) (.skip))))
 (.cut [0,1,5] [] (.reg false [oM 15 5 0,oY 16 .add 15 0 1,oM 5 16 0])))))
def a9 : AFn := ⟨2,27,[.t 4],
    .seq (.reg false [oU 4 0])
 (.seq (.seq (.reg false [oM 6 0 0,oG 7 6 0,oM 8 1 0,oG 9 8 0,oX 10 .neq 7 9 0])
 (.ite (.t 10) (.seq (.reg false [oU 4 0])
 (.cut [4] [] .ret)) (.skip)))
 (.cut [0,1] [] (.seq (.seq (.reg false [oI 5 0 0])
 (.blk 0 (.loop a9L0)))
 (.cut [] [] (.seq (.reg false [oT 4 0])
 (.cut [4] [] .ret))))))⟩
theorem ok9 : okFn Tryz.prog 3 Tryz.f9 a9 = true := by kernel_rfl
def a10L0 : AC := .cutg 3 [0,3,4] [] (.seq (.seq (.reg false [oM 5 4 0,oM 6 0 0,oG 7 6 0,oX 8 .lss 5 7 0])
 (.ite (.t 8) (.skip) (.cutg 3 [3] [] (.exit 0))))
 (.cutg 3 [0,3,4] [] (.seq (.blk 1 (.reg false [oM 11 3 0,oM 12 0 0,oM 13 4 0,oA 14 1 12 13 0,oL 15 14 0,oC 16 0 33 [.t 15] 0,⟨some 17,none,.bslice 83 2 1 [.f .f64 0,.f .f64 0] [(0,2,.t 16)],0⟩,⟨some 18,none,.app 83 2 16 (.t 11) (.t 17),0⟩,oM 3 18 0]))
 (.cutg 3 [0,3,4] [] (.reg false [oM 9 4 0,oY 10 .add 9 0 1,oM 4 10 0])))))
def a10 : AFn := ⟨1,20,[.t 2],
    .seq (.reg false [⟨some 2,none,.mv (.k (.sl none 0 (.ex 0))),0⟩])
 (.seq (.reg false [⟨some 3,none,.mv (.k (.sl none 0 (.ex 0))),0⟩])
 (.seq (.seq (.reg false [oI 4 0 0])
 (.blk 0 (.loop a10L0)))
 (.cutg 3 [3] [] (.seq (.reg false [oM 19 3 0,oM 2 19 0])
 (.cutg 3 [2] [] .ret)))))⟩
theorem ok10 : okFn Tryz.prog 3 Tryz.f10 a10 = true := by kernel_rfl
def a11 : AFn := ⟨2,24,[.t 4],
    .seq (.reg false [oB 2 24 0 0,oB 3 24 1 0,oU 4 0])
 (.seq (.reg false [oF 5 0 2 0,oL 6 5 0,oF 7 0 3 0,oL 8 7 0,oX 9 .eql 6 8 0,oM 10 9 0,gt 10 (oF 11 1 2 0),gt 10 (oL 12 11 0),gt 10 (oF 13 1 3 0),gt 10 (oL 14 13 0),gt 10 (oC 15 0 34 [.t 12,.t 14] 0),oQ 16 10 15 0,oM 17 16 0,gt 17 (oF 18 2 2 0),gt 17 (oL 19 18 0),gt 17 (oF 20 2 3 0),gt 17 (oL 21 20 0),gt 17 (oC 22 0 34 [.t 19,.t 21] 0),oQ 23 17 22 0,oM 4 23 0])
 (.cut [4] [] .ret))⟩
theorem ok11 : okFn Tryz.prog 3 Tryz.f11 a11 = true := by kernel_rfl
def a12 : AFn := ⟨0,128,[.t 0],
    .seq (.reg false [oU 0 0])
 (.seq (.reg false [oC 13 0 35 [] 0,oC 14 2 13 [.t 13] 0,oM 12 14 0,oE 15 12 0 0,oE 16 12 1 0,oM 1 15 0,oM 2 16 0])
 (.seq (.seq (.reg false [oM 17 1 0,⟨some 18,none,.pop (.pnil false) [.t 17],0⟩,oM 19 18 0,gf 19 (oM 20 2 0),gf 19 (oY 21 .neq 20 0 0),oP 22 19 21 0])
 (.ite (.t 22) (.seq (.reg false [oU 0 0])
 (.cutg 3 [0] [] .ret)) (.skip)))
 (.cutg 3 [1] [] (.seq (.reg false [oM 24 1 0,⟨some 25,none,.bslice 53 1 2 [.f .f64 0,.f .f64 0] [(0,1,.k (.f .f64 4599075939470750515)),(1,1,.k (.f .f64 4606281698874543309))],0⟩,oC 26 2 15 [.t 24,.t 25] 0,oM 23 26 0,oE 27 23 0 0,oE 28 23 1 0,oM 3 27 0,oM 4 28 0])
 (.seq (.reg false [oM 29 1 0,oC 30 0 36 [.t 29] 0,oM 5 30 0])
 (.seq (.reg false [oM 31 1 0,oC 32 0 37 [.t 31] 0,oM 6 32 0])
 (.seq (.reg false [oM 33 1 0,oC 34 0 38 [.t 33] 0,⟨some 7,none,.alloc true 24 [.i .i64 0,.sl none 0 (.ex 0),.sl none 0 (.ex 0)],0⟩,oS 3 7 34 0])
 (.seq (.reg false [oJ 36 3 7 0,oC 37 0 7 [.t 36] 0,oM 35 37 0,oE 38 35 0 0,oE 39 35 1 0,oM 8 38 0,oM 9 39 0])
 (.seq (.reg false [⟨some 41,none,.bslice 3 1 3 [.i .i64 0,.i .i64 0,.i .i64 0] [(0,1,.k (.i .i64 0)),(1,1,.k (.i .i64 1)),(2,1,.k (.i .i64 2))],0⟩,oC 42 2 39 [.k (.i .i64 18),.t 41] 0,⟨some 43,none,.bslice 60 6 1 [.i .i64 0,.i .i64 0,.sl none 0 (.ex 0),.i .i64 0,.i .i64 0,.i .i64 0] [(0,6,.t 42)],0⟩,⟨some 44,none,.build [.i .i64 0,.i .i64 0,.sl none 0 (.ex 0)] [(0,1,.k (.i .i64 3)),(2,1,.t 43)],0⟩,oC 45 2 13 [.t 44] 0,oM 40 45 0,oE 46 40 0 0,oE 47 40 1 0,oM 10 46 0,oM 11 47 0])
 (.seq (.reg false [oM 48 3 0,oY 49 .eql 48 0 2,oM 50 49 0,gt 50 (oM 51 4 0),gt 50 (oY 52 .eql 51 0 0),oQ 53 50 52 0,oM 54 53 0,gt 54 (oM 55 5 0),gt 54 (oG 56 55 0),gt 54 (oY 57 .eql 56 0 2),oQ 58 54 57 0,oM 59 58 0,gt 59 (oM 60 5 0),gt 59 ⟨some 61,none,.iadr 1 (.t 60) (.k (.i .i64 0)),0⟩,gt 59 (oL 62 61 0),gt 59 (oY 63 .eql 62 0 1),oQ 64 59 63 0,oM 65 64 0,gt 65 (oM 66 5 0),gt 65 ⟨some 67,none,.iadr 1 (.t 66) (.k (.i .i64 1)),0⟩,gt 65 (oL 68 67 0),gt 65 (oY 69 .eql 68 0 1),oQ 70 65 69 0,oM 71 70 0,gt 71 (oM 72 6 0),gt 71 (oG 73 72 0),gt 71 (oY 74 .eql 73 0 2),oQ 75 71 74 0,oM 76 75 0,gt 76 (oM 77 6 0),gt 76 ⟨some 78,none,.iadr 6 (.t 77) (.k (.i .i64 0)),0⟩,gt 76 (oF 79 5 78 0),gt 76 (oL 80 79 0),gt 76 ⟨some 81,none,.pop (.fcmp .eql) [.t 80,.k (.f .f64 4602678819172646912)],0⟩,oQ 82 76 81 0,oM 83 82 0,gt 83 (oM 84 6 0),gt 83 ⟨some 85,none,.iadr 6 (.t 84) (.k (.i .i64 1)),0⟩,gt 83 (oF 86 4 85 0),gt 83 (oL 87 86 0),gt 83 ⟨some 88,none,.pop (.fcmp .eql) [.t 87,.k (.f .f64 0)],0⟩,oQ 89 83 88 0,oM 90 89 0,gt 90 (oM 91 1 0),gt 90 (oC 92 0 40 [.t 91] 0),gt 90 (oY 93 .eql 92 0 1),oQ 94 90 93 0,oM 95 94 0,gt 95 (oF 96 1 7 0),gt 95 (oL 97 96 0),gt 95 (oG 98 97 0),gt 95 (oY 99 .eql 98 0 2),oQ 100 95 99 0,oM 101 100 0,gt 101 (oF 102 1 7 0),gt 101 (oL 103 102 0),gt 101 ⟨some 104,none,.iadr 4 (.t 103) (.k (.i .i64 0)),0⟩,gt 101 (oF 105 3 104 0),gt 101 (oL 106 105 0),gt 101 (oY 107 .eql 106 0 2),oQ 108 101 107 0,oM 109 108 0,gt 109 (oM 110 9 0),gt 109 (oY 111 .eql 110 0 0),oQ 112 109 111 0,oM 113 112 0,gt 113 (oM 114 8 0),gt 113 (oG 115 114 0),gt 113 (oY 116 .eql 115 0 4),oQ 117 113 116 0,oM 118 117 0,gt 118 (oM 119 8 0),gt 118 ⟨some 120,none,.iadr 1 (.t 119) (.k (.i .i64 3)),0⟩,gt 118 (oL 121 120 0),gt 118 ⟨some 122,none,.pop (.ceq true) [.t 121,.k (.c .f64 0 0)],0⟩,oQ 123 118 122 0,oM 124 123 0,gt 124 (oM 125 11 0),gt 124 (oY 126 .eql 125 0 150),oQ 127 124 126 0,oM 0 127 0])
 (.cutg 3 [0] [] .ret)))))))))))⟩
theorem ok12 : okFn Tryz.prog 3 Tryz.f12 a12 = true := by kernel_rfl
def a13 : AFn := ⟨1,33,[.t 2,.t 3],
    .seq (.reg false [oB 1 40 0 0,⟨some 2,none,.mv (.k (.p none)),0⟩,oI 3 0 0])
 (.seq (.seq (.reg false [oJ 9 3 1 0,oC 10 0 41 [.t 9] 0,oM 8 10 0,oE 11 8 0 0,oE 12 8 1 0,oM 4 11 0,oM 5 12 0])
 (.seq (.reg false [oM 13 5 0,oY 14 .neq 13 0 0])
 (.ite (.t 14) (.seq (.reg false [⟨some 2,none,.mv (.k (.p none)),0⟩,oI 3 0 80])
 (.cutg 3 [2,3] [] .ret)) (.skip))))
 (.cutg 3 [1] [1] (.seq (.seq (.reg false [oJ 15 3 1 0,oC 16 0 42 [.t 15] 0,oN 17 16 0])
 (.ite (.t 17) (.seq (.reg false [⟨some 2,none,.mv (.k (.p none)),0⟩,oI 3 0 150])
 (.cutg 3 [2,3] [] .ret)) (.skip)))
 (.cutg 3 [1] [1] (.seq (.reg false [oF 19 0 1 0,oL 20 19 0,oC 21 0 43 [.t 20] 0,oM 18 21 0,oE 22 18 0 0,oE 23 18 1 0,⟨some 6,none,.alloc true 24 [.i .i64 0,.sl none 0 (.ex 0),.sl none 0 (.ex 0)],0⟩,oS 3 6 22 0,oM 7 23 0])
 (.seq (.reg true [oJ 24 3 1 0,oC 25 0 44 [.t 24] 1,oJ 26 3 6 0,oF 27 1 1 0,oL 28 27 8,⟨some 29,none,.mks 3 1 8 [.i .i64 0] (.t 28) (.t 28),24⟩,⟨some 30,none,.build [.i .i64 0,.sl none 0 (.ex 0),.sl none 0 (.ex 0),.sl none 0 (.ex 0),.i .i64 0,.sl none 0 (.ex 0)] [(0,3,.t 26),(3,1,.t 29)],60⟩,⟨some 31,none,.build [.b false,.i .i64 0,.i .i64 0,.sl none 0 (.ex 0),.i .i64 0,.sl none 0 (.ex 0),.sl none 0 (.ex 0),.sl none 0 (.ex 0),.i .i64 0,.sl none 0 (.ex 0)] [(0,1,.k (.b true)),(1,3,.t 25),(4,6,.t 30)],127⟩,⟨some 32,none,.box false 102 (.t 31),255⟩,oM 2 32 511,oI 3 1023 0])
 (.cutg 3 [2,3] [] .ret)))))))⟩
theorem ok13 : okFn Tryz.prog 3 Tryz.f13 a13 = true := by kernel_rfl
def a15L0 : AC := .cutg 3 [0,1,6] [] (.seq (.seq (.reg true [oM 14 0 0,⟨some 15,none,.nchk (.t 14),1⟩,oF 16 4 15 3,oF 17 4 16 7,oL 18 17 15,oM 19 0 0,⟨some 20,none,.nchk (.t 19),32⟩,oF 21 1 20 96,oF 22 2 21 224,oL 23 22 480,oG 24 23 992,oX 25 .lss 18 24 2047])
 (.ite (.t 25) (.skip) (.cutg 3 [6] [] (.exit 0))))
 (.cutg 3 [0,1,6] [] (.blk 1 (.seq (.reg true [oM 26 0 0,⟨some 27,none,.nchk (.t 26),1⟩,oF 28 1 27 3,oF 29 2 28 7,oL 30 29 15,oM 31 0 0,⟨some 32,none,.nchk (.t 31),32⟩,oF 33 4 32 96,oF 34 4 33 224,oL 35 34 480,oA 36 6 30 35 1023,oF 37 0 36 2047,oL 38 37 4095,⟨some 7,none,.mv (.k (.f .f64 0)),0⟩,oM 8 38 16383])
 (.seq (.seq (.reg false [oM 39 8 0,oY 40 .eql 39 0 2,oM 41 40 0,gf 41 (oM 42 8 0),gf 41 (oY 43 .eql 42 0 3),oP 44 41 43 0])
 (.ite (.t 44) (.seq (.seq (.reg false [oM 45 6 0,oM 46 1 0,oG 47 46 0,oX 48 .eql 45 47 0])
 (.ite (.t 48) (.seq (.reg false [oM 49 6 0,oM 4 49 0,oI 5 0 150])
 (.cutg 3 [4,5] [] .ret)) (.skip)))
 (.cutg 3 [0,1,6] [] (.reg false [oM 50 1 0,oM 51 6 0,oA 52 1 50 51 0,oL 53 52 0,oM 7 53 0]))) (.skip)))
 (.cutg 3 [0,1,6,7] [] (.seq (.reg false [oM 55 0 0,oM 56 7 0,oC 57 2 20 [.t 55,.t 56] 0,oM 54 57 0,oE 58 54 0 0,oE 59 54 1 0,oM 9 58 0,oM 10 59 0])
 (.seq (.seq (.reg false [oM 60 10 0,oY 61 .neq 60 0 0])
 (.ite (.t 61) (.seq (.reg false [oM 62 6 0,oM 63 10 0,oM 4 62 0,oM 5 63 0])
 (.cutg 3 [4,5] [] .ret)) (.skip)))
 (.cutg 3 [0,1,6,9] [] (.seq (.reg false [oM 64 9 0])
 (.ite (.t 64) (.reg false [oM 65 6 0,oY 66 .add 65 0 1,oM 6 66 0]) (.skip))))))))))))
def a15 : AFn := ⟨2,68,[.t 4,.t 5],
    .seq (.reg false [oI 4 0 0,oI 5 0 0])
 (.seq (.seq (.reg false [oM 11 0 0,oC 12 0 48 [.t 11] 0,oN 13 12 0])
 (.ite (.t 13) (.seq (.reg false [oI 4 0 0,oI 5 0 1])
 (.cutg 3 [4,5] [] .ret)) (.skip)))
 (.cutg 3 [0,1] [] (.seq (.reg false [oI 6 0 0])
 (.seq (.blk 0 (.loop a15L0))
 (.cutg 3 [6] [] (.seq (.reg false [oM 67 6 0,oM 4 67 0,oI 5 0 0])
 (.cutg 3 [4,5] [] .ret)))))))⟩
theorem ok15 : okFn Tryz.prog 3 Tryz.f15 a15 = true := by kernel_rfl
def a20 : AFn := ⟨2,75,[.t 4,.t 5],
    .seq (.reg false [oU 4 0,oI 5 0 0])
 (.seq (.blk 0 (.seq (.reg false [oM 11 0 0,oC 12 0 48 [.t 11] 0,oN 13 12 0,oM 10 13 0])
 (.ite (.t 10) (.seq (.reg false [oU 4 0,oI 5 0 1])
 (.cutg 3 [4,5] [] .ret)) (.seq (.reg true [oM 15 0 0,⟨some 16,none,.nchk (.t 15),1⟩,oF 17 4 16 3,oF 18 4 17 7,oL 19 18 15,oM 20 0 0,⟨some 21,none,.nchk (.t 20),32⟩,oF 22 1 21 96,oF 23 2 22 224,oL 24 23 480,oG 25 24 992,oX 26 .geq 19 25 2047,oM 14 26 4095])
 (.ite (.t 14) (.seq (.reg false [oU 4 0,oI 5 0 150])
 (.cutg 3 [4,5] [] .ret)) (.skip))))))
 (.cutg 3 [0,1] [] (.seq (.reg true [oM 27 0 0,⟨some 28,none,.nchk (.t 27),1⟩,oF 29 1 28 3,oF 30 2 29 7,oL 31 30 15,oM 32 0 0,⟨some 33,none,.nchk (.t 32),32⟩,oF 34 4 33 96,oF 35 4 34 224,oL 36 35 480,oA 37 6 31 36 1023,oJ 38 6 37 2047,⟨some 6,none,.alloc true 60 [.i .i64 0,.i .i64 0,.sl none 0 (.ex 0),.i .i64 0,.i .i64 0,.i .i64 0],0⟩,oS 6 6 38 8191])
 (.seq (.reg false [oM 39 0 0,⟨some 40,none,.mkf (.func 58) [.t 39] [],0⟩,oM 7 40 0])
 (.seq (.seq (.reg false [oF 41 0 6 0,oL 42 41 0])
 (.blk 1 (.seq (.reg false [oY 44 .eql 42 0 2,oM 43 44 0])
 (.ite (.t 43) (.reg false [oM 45 0 0,⟨some 46,none,.mkf (.func 59) [.t 45] [],0⟩,oM 7 46 0]) (.seq (.reg false [oY 48 .eql 42 0 3,oM 47 48 0])
 (.ite (.t 47) (.reg false [oM 49 0 0,⟨some 50,none,.mkf (.func 60) [.t 49] [],0⟩,oM 7 50 0]) (.seq (.reg false [oY 52 .eql 42 0 4,oM 51 52 0])
 (.ite (.t 51) (.reg false [oM 53 0 0,⟨some 54,none,.mkf (.func 61) [.t 53] [],0⟩,oM 7 54 0]) (.skip)))))))))
 (.cutg 3 [0,1,6,7] [6] (.seq (.reg false [oM 56 7 0,oJ 57 6 6 0,oM 58 1 0,⟨some 59,none,.call 2 (.t 56) [.t 57,.t 58],0⟩,oM 55 59 0,oE 60 55 0 0,oE 61 55 1 0,oM 8 60 0,oM 9 61 0])
 (.seq (.seq (.reg false [oM 62 9 0,oY 63 .eql 62 0 0])
 (.ite (.t 63) (.reg false [oM 64 0 0,⟨some 65,none,.nchk (.t 64),0⟩,oF 66 4 65 0,oF 67 4 66 0,oL 68 67 0,oY 69 .add 68 0 1,⟨some 70,none,.nchk (.t 64),0⟩,oF 71 4 70 0,oF 72 4 71 0,oS 1 72 69 0]) (.skip)))
 (.cutg 3 [8,9] [] (.seq (.reg false [oM 73 8 0,oM 74 9 0,oM 4 73 0,oM 5 74 0])
 (.cutg 3 [4,5] [] .ret)))))))))))⟩
theorem ok20 : okFn Tryz.prog 3 Tryz.f20 a20 = true := by kernel_rfl
def a22L0 : AC := .cutg 3 [1,33,34,47,48,49] [1] (.seq (.reg false [oX 50 .lss 49 48 0])
 (.seq (.ite (.t 50) (.skip) (.cutg 3 [1,33,34] [1] (.exit 2)))
 (.cutg 3 [1,33,34,47,48,49] [1] (.seq (.blk 3 (.seq (.reg false [oA 51 4 47 49 0,oJ 52 4 51 0,⟨some 5,none,.alloc true 71 [.i .i64 0,.i .u64 0,.i .u64 0,.i .i64 0],0⟩,oS 4 5 52 0])
 (.seq (.reg false [oF 53 0 5 0,oL 54 53 0,oF 55 0 1 0,oL 56 55 0,oX 57 .neq 54 56 0,oM 58 57 0,gf 58 (oJ 59 4 5 0),gf 58 (oC 60 0 68 [.t 59] 0),gf 58 (oN 61 60 0),oP 62 58 61 0])
 (.ite (.t 62) (.seq (.reg false [oI 2 0 140])
 (.cutg 3 [2] [] .ret)) (.skip)))))
 (.cutg 3 [1,33,34,47,48,49] [1] (.reg false [oY 63 .add 49 0 1,oM 49 63 0]))))))
def a22L1 : AC := .cutg 3 [1,33,34] [1] (.seq (.reg false [oX 35 .lss 34 33 0])
 (.seq (.ite (.t 35) (.skip) (.cutg 3 [1] [1] (.exit 0)))
 (.cutg 3 [1,33,34] [1] (.seq (.blk 1 (.seq (.reg false [oM 36 34 0,oM 3 36 0])
 (.seq (.reg true [oF 37 1 1 0,oL 38 37 1,oM 39 3 0,oA 40 4 38 39 7,oJ 41 4 40 15,oF 42 2 1 0,oL 43 42 32,oM 44 3 0,oA 45 4 43 44 224,oJ 46 4 45 480,⟨some 47,none,.bslice 71 4 2 [.i .i64 0,.i .u64 0,.i .u64 0,.i .i64 0,.i .i64 0,.i .u64 0,.i .u64 0,.i .i64 0] [(0,4,.t 41),(4,4,.t 46)],1023⟩,oG 48 47 2047,oI 49 0 0])
 (.blk 2 (.loop a22L0)))))
 (.cutg 3 [1,33,34] [1] (.reg false [oY 64 .add 34 0 1,oM 34 64 0]))))))
def a22L2 : AC := .cutg 3 [1,6,66,67,71,72] [1] (.seq (.reg false [oX 73 .lss 72 71 0])
 (.seq (.ite (.t 73) (.skip) (.cutg 3 [1,66,67] [1] (.exit 6)))
 (.cutg 3 [1,6,66,67,71,72] [1] (.seq (.blk 7 (.seq (.reg false [oM 74 72 0,oM 7 74 0])
 (.seq (.reg true [oF 75 1 1 0,oL 76 75 1,oM 77 6 0,oA 78 4 76 77 7,oJ 79 4 78 15,oF 80 1 1 0,oL 81 80 32,oM 82 7 0,oA 83 4 81 82 224,oJ 84 4 83 480,oC 85 0 69 [.t 79,.t 84] 1023,oN 86 85 2047,oM 87 86 4095,gf 87 (oF 88 2 1 8191),gf 87 (oL 89 88 16383),gf 87 (oM 90 6 8191),gf 87 (oA 91 4 89 90 65535),gf 87 (oJ 92 4 91 131071),gf 87 (oF 93 2 1 8191),gf 87 (oL 94 93 270335),gf 87 (oM 95 7 8191),gf 87 (oA 96 4 94 95 1843199),gf 87 (oJ 97 4 96 3940351),gf 87 (oC 98 0 69 [.t 92,.t 97] 8388607),gf 87 (oN 99 98 16777215),oP 100 87 99 33554431,oM 101 100 67108863,gf 101 (oF 102 2 1 134217727),gf 101 (oL 103 102 268435455),gf 101 (oM 104 6 134217727),gf 101 (oA 105 4 103 104 1073741823),gf 101 (oJ 106 4 105 2147483647),gf 101 (oF 107 1 1 134217727),gf 101 (oL 108 107 4429185023),gf 101 (oM 109 7 134217727),gf 101 (oA 110 4 108 109 30198988799),gf 101 (oJ 111 4 110 64558727167),gf 101 (oC 112 0 69 [.t 106,.t 111] 137438953471),gf 101 (oM 113 6 134217727),gf 101 (oM 114 7 134217727),gf 101 (oX 115 .eql 113 114 824767938559),gf 101 ⟨some 116,none,.eqb false (.t 112) (.t 115),2199023255551⟩,oP 117 101 116 4398046511103])
 (.ite (.t 117) (.seq (.reg false [oI 2 0 140])
 (.cutg 3 [2] [] .ret)) (.skip)))))
 (.cutg 3 [1,6,66,67,71,72] [1] (.reg false [oY 118 .add 72 0 1,oM 72 118 0]))))))
def a22L3 : AC := .cutg 3 [1,66,67] [1] (.seq (.reg false [oX 68 .lss 67 66 0])
 (.seq (.ite (.t 68) (.skip) (.cutg 3 [] [] (.exit 4)))
 (.cutg 3 [1,66,67] [1] (.seq (.blk 5 (.seq (.reg false [oM 69 67 0,oM 6 69 0])
 (.seq (.reg false [oF 70 0 1 0,oL 71 70 0,oI 72 0 0])
 (.blk 6 (.loop a22L2)))))
 (.cutg 3 [1,66,67] [1] (.reg false [oY 119 .add 67 0 1,oM 67 119 0]))))))
def a22 : AFn := ⟨1,120,[.t 2],
    .seq (.reg false [oB 1 24 0 0,oI 2 0 0])
 (.seq (.seq (.reg false [oF 8 0 1 0,oL 9 8 0,oY 10 .lss 9 0 0,oM 11 10 0,gf 11 (oF 12 0 1 0),gf 11 (oL 13 12 0),gf 11 (oY 14 .gtr 13 0 64),oP 15 11 14 0,oM 16 15 0,gf 16 (oF 17 1 1 0),gf 16 (oL 18 17 0),gf 16 (oG 19 18 0),gf 16 (oF 20 0 1 0),gf 16 (oL 21 20 0),gf 16 (oX 22 .neq 19 21 0),oP 23 16 22 0,oM 24 23 0,gf 24 (oF 25 2 1 0),gf 24 (oL 26 25 0),gf 24 (oG 27 26 0),gf 24 (oF 28 0 1 0),gf 24 (oL 29 28 0),gf 24 (oX 30 .neq 27 29 0),oP 31 24 30 0])
 (.ite (.t 31) (.seq (.reg false [oI 2 0 140])
 (.cutg 3 [2] [] .ret)) (.skip)))
 (.cutg 3 [1] [1] (.seq (.seq (.reg false [oF 32 0 1 0,oL 33 32 0,oI 34 0 0])
 (.blk 0 (.loop a22L1)))
 (.cutg 3 [1] [1] (.seq (.seq (.reg false [oF 65 0 1 0,oL 66 65 0,oI 67 0 0])
 (.blk 4 (.loop a22L3)))
 (.cutg 3 [] [] (.seq (.reg false [oI 2 0 0])
 (.cutg 3 [2] [] .ret))))))))⟩
theorem ok22 : okFn Tryz.prog 3 Tryz.f22 a22 = true := by kernel_rfl
def a23 : AFn := ⟨2,30,[.t 4,.t 5],
    .seq (.reg false [⟨some 4,none,.mv (.k (.sl none 0 (.ex 0))),0⟩,oI 5 0 0])
 (.seq (.seq (.reg false [oM 7 0 0,oY 8 .lss 7 0 0,oM 9 8 0,gf 9 (oM 10 0 0),gf 9 (oY 11 .gtr 10 0 12),oP 12 9 11 0,oM 13 12 0,gf 13 (oM 14 1 0),gf 13 (oY 15 .lss 14 0 0),oP 16 13 15 0,oM 17 16 0,gf 17 (oM 18 1 0),gf 17 (oM 19 0 0),gf 17 ⟨some 20,none,.bin .shl (.k (.i .i64 1)) (.t 19),0⟩,gf 17 (oX 21 .geq 18 20 0),oP 22 17 21 0])
 (.ite (.t 22) (.seq (.reg false [⟨some 4,none,.mv (.k (.sl none 0 (.ex 0))),0⟩,oI 5 0 90])
 (.cutg 3 [4,5] [] .ret)) (.skip)))
 (.cutg 3 [0,1] [] (.seq (.reg false [oM 23 0 0,⟨some 24,none,.bin .shl (.k (.i .i64 1)) (.t 23),0⟩,⟨some 25,none,.mks 73 1 16 [.c .f64 0 0] (.t 24) (.t 24),0⟩,oM 6 25 0])
 (.seq (.reg false [oM 26 6 0,oM 27 1 0,oA 28 1 26 27 0,⟨none,none,.store 1 (.t 28) (.k (.c .f64 4607182418800017408 0)),0⟩])
 (.seq (.reg false [oM 29 6 0,oM 4 29 0,oI 5 0 0])
 (.cutg 3 [4,5] [] .ret))))))⟩
theorem ok23 : okFn Tryz.prog 3 Tryz.f23 a23 = true := by kernel_rfl
def a24L0 : AC := .cutg 3 [2,8,31,32,33] [2] (.seq (.reg false [oX 34 .lss 33 32 0])
 (.seq (.ite (.t 34) (.skip) (.cutg 3 [8] [] (.exit 0)))
 (.cutg 3 [2,8,31,32,33] [2] (.seq (.blk 1 (.seq (.reg false [oM 35 33 0,oA 36 1 31 33 0,oL 37 36 0,oM 9 35 0,oM 10 37 0])
 (.seq (.reg true [oF 38 3 2 0,oL 39 38 1,oF 40 1 2 0,oL 41 40 4,oF 42 2 2 0,oL 43 42 16,oX 44 .and 41 43 60,oC 45 0 72 [.t 44] 124,oX 46 .add 39 45 255,oM 47 9 0,⟨some 48,none,.conv .u64 (.t 47),512⟩,oF 49 2 2 0,oL 50 49 2048,oX 51 .and 48 50 7680,oC 52 0 72 [.t 51] 16124,⟨some 53,none,.bin .mul (.k (.i .i64 2)) (.t 52),32508⟩,oX 54 .add 46 53 65535,oM 11 54 131071])
 (.reg true [oM 55 8 0,oM 56 9 0,oF 57 1 2 0,oL 58 57 4,⟨some 59,none,.conv .i64 (.t 58),12⟩,oX 60 .xor 56 59 30,oM 61 10 0,oM 62 11 0,oC 63 0 74 [.t 61,.t 62] 192,oC 64 0 73 [.t 63] 448,oA 65 1 55 60 1023,oS 1 65 64 2047]))))
 (.cutg 3 [2,8,31,32,33] [2] (.reg false [oY 66 .add 33 0 1,oM 33 66 0]))))))
def a24 : AFn := ⟨2,68,[.t 4,.t 5],
    .seq (.reg false [oB 2 71 0 0,⟨some 4,none,.mv (.k (.sl none 0 (.ex 0))),0⟩,oI 5 0 0])
 (.seq (.reg false [oM 13 1 0,oC 14 0 70 [.t 13] 0,oM 12 14 0,oE 15 12 0 0,oE 16 12 1 0,oM 6 15 0,oM 7 16 0])
 (.seq (.seq (.reg false [oM 17 7 0,oY 18 .neq 17 0 0])
 (.ite (.t 18) (.seq (.reg false [⟨some 4,none,.mv (.k (.sl none 0 (.ex 0))),0⟩,oI 5 0 90])
 (.cutg 3 [4,5] [] .ret)) (.skip)))
 (.cutg 3 [1,2,6] [2] (.seq (.seq (.reg false [oJ 19 4 2 0,oC 20 0 71 [.t 19] 0,oN 21 20 0,oM 22 21 0,gf 22 (oF 23 0 2 0),gf 22 (oL 24 23 0),gf 22 (oM 25 6 0),gf 22 (oX 26 .neq 24 25 0),oP 27 22 26 0])
 (.ite (.t 27) (.seq (.reg false [⟨some 4,none,.mv (.k (.sl none 0 (.ex 0))),0⟩,oI 5 0 130])
 (.cutg 3 [4,5] [] .ret)) (.skip)))
 (.cutg 3 [1,2] [2] (.seq (.reg false [oM 28 1 0,oG 29 28 0,⟨some 30,none,.mks 73 1 16 [.c .f64 0 0] (.t 29) (.t 29),0⟩,oM 8 30 0])
 (.seq (.seq (.reg false [oM 31 1 0,oG 32 31 0,oI 33 0 0])
 (.blk 0 (.loop a24L0)))
 (.cutg 3 [8] [] (.seq (.reg false [oM 67 8 0,oM 4 67 0,oI 5 0 0])
 (.cutg 3 [4,5] [] .ret))))))))))⟩
theorem ok24 : okFn Tryz.prog 3 Tryz.f24 a24 = true := by kernel_rfl
def a25 : AFn := ⟨2,16,[.t 4],
    .seq (.reg false [⟨some 4,none,.mv (.k (.c .f64 0 0)),0⟩])
 (.seq (.reg false [oM 5 0 0,⟨some 6,none,.pop .re [.t 5],0⟩,oM 7 1 0,⟨some 8,none,.pop .re [.t 7],0⟩,⟨some 9,none,.pop (.fbin .add) [.t 6,.t 8],0⟩,oM 10 0 0,⟨some 11,none,.pop .im [.t 10],0⟩,oM 12 1 0,⟨some 13,none,.pop .im [.t 12],0⟩,⟨some 14,none,.pop (.fbin .add) [.t 11,.t 13],0⟩,⟨some 15,none,.pop .mk [.t 9,.t 14],0⟩,oM 4 15 0])
 (.cut [4] [] .ret))⟩
theorem ok25 : okFn Tryz.prog 3 Tryz.f25 a25 = true := by kernel_rfl
def a26 : AFn := ⟨2,9,[.t 4],
    .seq (.reg false [oU 4 0])
 (.seq (.reg false [oM 5 0 0,oM 6 1 0,oC 7 0 75 [.t 5,.t 6] 0,oY 8 .geq 7 0 0,oM 4 8 0])
 (.cut [4] [] .ret))⟩
theorem ok26 : okFn Tryz.prog 3 Tryz.f26 a26 = true := by kernel_rfl
def a27 : AFn := ⟨1,5,[.t 2],
    .seq (.reg false [oU 2 0])
 (.seq (.reg false [oM 3 0 0,⟨some 4,none,.pop (.ceq true) [.t 3,.k (.c .f64 0 0)],0⟩,oM 2 4 0])
 (.cut [2] [] .ret))⟩
theorem ok27 : okFn Tryz.prog 3 Tryz.f27 a27 = true := by kernel_rfl
def a28L0 : AC := .cut [1,3,4,5] [1] (.seq (.seq (.reg false [oM 36 5 0,oY 37 .lss 36 0 2])
 (.ite (.t 37) (.skip) (.cut [1,3,4] [1] (.exit 2))))
 (.cut [1,3,4,5] [1] (.seq (.blk 3 (.seq (.reg false [oF 40 1 1 0,oL 41 40 0,oM 42 4 0,oA 43 4 41 42 0,oJ 44 4 43 0,⟨some 6,none,.alloc true 71 [.i .i64 0,.i .u64 0,.i .u64 0,.i .i64 0],0⟩,oS 4 6 44 0])
 (.seq (.seq (.reg false [oM 45 5 0,oY 46 .eql 45 0 1])
 (.ite (.t 46) (.reg false [oF 47 2 1 0,oL 48 47 0,oM 49 4 0,oA 50 4 48 49 0,oJ 51 4 50 0,oS 4 6 51 0]) (.skip)))
 (.cut [1,3,4,5,6] [1,6] (.seq (.reg false [oJ 52 4 6 0,oC 53 0 76 [.t 52] 0,oN 54 53 0,oM 55 54 0,gf 55 (oF 56 0 6 0),gf 55 (oL 57 56 0),gf 55 (oM 58 3 0),gf 55 (oX 59 .neq 57 58 0),oP 60 55 59 0,oM 61 60 0,gf 61 (oF 62 3 6 0),gf 61 (oL 63 62 0),gf 61 (oY 64 .rem 63 0 2),gf 61 (oY 65 .eql 64 0 1),oP 66 61 65 0])
 (.ite (.t 66) (.seq (.reg false [oU 2 0])
 (.cut [2] [] .ret)) (.skip)))))))
 (.cut [1,3,4,5] [1] (.reg false [oM 38 5 0,oY 39 .add 38 0 1,oM 5 39 0])))))
def a28L1 : AC := .cut [1,3,4] [1] (.seq (.seq (.reg false [oM 31 4 0,oM 32 3 0,oX 33 .lss 31 32 0])
 (.ite (.t 33) (.skip) (.cut [1,3] [1] (.exit 0))))
 (.cut [1,3,4] [1] (.seq (.blk 1 (.seq (.reg false [oI 5 0 0])
 (.blk 2 (.loop a28L0))))
 (.cut [1,3,4] [1] (.reg false [oM 34 4 0,oY 35 .add 34 0 1,oM 4 35 0])))))
def a28L2 : AC := .cut [1,3,7,8] [1] (.seq (.seq (.reg false [oM 72 8 0,oM 73 3 0,oX 74 .lss 72 73 0])
 (.ite (.t 74) (.skip) (.cut [1,3,7] [1] (.exit 6))))
 (.cut [1,3,7,8] [1] (.seq (.blk 7 (.seq (.reg true [oF 77 1 1 0,oL 78 77 1,oM 79 7 0,oA 80 4 78 79 7,oJ 81 4 80 15,oF 82 1 1 0,oL 83 82 32,oM 84 8 0,oA 85 4 83 84 224,oJ 86 4 85 480,oC 87 0 77 [.t 81,.t 86] 1023,oN 88 87 2047,oM 89 88 4095,gf 89 (oF 90 2 1 8191),gf 89 (oL 91 90 16383),gf 89 (oM 92 7 8191),gf 89 (oA 93 4 91 92 65535),gf 89 (oJ 94 4 93 131071),gf 89 (oF 95 2 1 8191),gf 89 (oL 96 95 270335),gf 89 (oM 97 8 8191),gf 89 (oA 98 4 96 97 1843199),gf 89 (oJ 99 4 98 3940351),gf 89 (oC 100 0 77 [.t 94,.t 99] 8388607),gf 89 (oN 101 100 16777215),oP 102 89 101 33554431,oM 103 102 67108863,gf 103 (oF 104 2 1 134217727),gf 103 (oL 105 104 268435455),gf 103 (oM 106 7 134217727),gf 103 (oA 107 4 105 106 1073741823),gf 103 (oJ 108 4 107 2147483647),gf 103 (oF 109 1 1 134217727),gf 103 (oL 110 109 4429185023),gf 103 (oM 111 8 134217727),gf 103 (oA 112 4 110 111 30198988799),gf 103 (oJ 113 4 112 64558727167),gf 103 (oC 114 0 77 [.t 108,.t 113] 137438953471),gf 103 (oM 115 7 134217727),gf 103 (oM 116 8 134217727),gf 103 (oX 117 .neq 115 116 824767938559),gf 103 ⟨some 118,none,.eqb true (.t 114) (.t 117),2199023255551⟩,oP 119 103 118 4398046511103])
 (.ite (.t 119) (.seq (.reg false [oU 2 0])
 (.cut [2] [] .ret)) (.skip))))
 (.cut [1,3,7,8] [1] (.reg false [oM 75 8 0,oY 76 .add 75 0 1,oM 8 76 0])))))
def a28L3 : AC := .cut [1,3,7] [1] (.seq (.seq (.reg false [oM 67 7 0,oM 68 3 0,oX 69 .lss 67 68 0])
 (.ite (.t 69) (.skip) (.cut [] [] (.exit 4))))
 (.cut [1,3,7] [1] (.seq (.blk 5 (.seq (.reg false [oI 8 0 0])
 (.blk 6 (.loop a28L2))))
 (.cut [1,3,7] [1] (.reg false [oM 70 7 0,oY 71 .add 70 0 1,oM 7 71 0])))))
def a28 : AFn := ⟨1,120,[.t 2],
    .seq (.reg false [oB 1 24 0 0,oU 2 0])
 (.seq (.reg false [oF 9 0 1 0,oL 10 9 0,oM 3 10 0])
 (.seq (.seq (.reg false [oM 11 3 0,oY 12 .lss 11 0 0,oM 13 12 0,gf 13 (oM 14 3 0),gf 13 (oY 15 .gtr 14 0 64),oP 16 13 15 0,oM 17 16 0,gf 17 (oF 18 1 1 0),gf 17 (oL 19 18 0),gf 17 (oG 20 19 0),gf 17 (oM 21 3 0),gf 17 (oX 22 .neq 20 21 0),oP 23 17 22 0,oM 24 23 0,gf 24 (oF 25 2 1 0),gf 24 (oL 26 25 0),gf 24 (oG 27 26 0),gf 24 (oM 28 3 0),gf 24 (oX 29 .neq 27 28 0),oP 30 24 29 0])
 (.ite (.t 30) (.seq (.reg false [oU 2 0])
 (.cut [2] [] .ret)) (.skip)))
 (.cut [1,3] [1] (.seq (.seq (.reg false [oI 4 0 0])
 (.blk 0 (.loop a28L1)))
 (.cut [1,3] [1] (.seq (.seq (.reg false [oI 7 0 0])
 (.blk 4 (.loop a28L3)))
 (.cut [] [] (.seq (.reg false [oT 2 0])
 (.cut [2] [] .ret)))))))))⟩
theorem ok28 : okFn Tryz.prog 3 Tryz.f28 a28 = true := by kernel_rfl
def a29 : AFn := ⟨2,33,[.t 4,.t 5],
    .seq (.reg false [⟨some 4,none,.mv (.k (.sl none 0 (.ex 0))),0⟩,oI 5 0 0])
 (.seq (.seq (.reg false [oM 7 0 0,oY 8 .lss 7 0 0,oM 9 8 0,gf 9 (oM 10 0 0),gf 9 (oY 11 .gtr 10 0 12),oP 12 9 11 0,oM 13 12 0,gf 13 (oM 14 1 0),gf 13 (oY 15 .lss 14 0 0),oP 16 13 15 0,oM 17 16 0,gf 17 (oM 18 1 0),gf 17 (oM 19 0 0),gf 17 ⟨some 20,none,.conv .u64 (.t 19),0⟩,gf 17 ⟨some 21,none,.bin .shl (.k (.i .i64 1)) (.t 20),0⟩,gf 17 (oX 22 .geq 18 21 0),oP 23 17 22 0])
 (.ite (.t 23) (.seq (.reg false [⟨some 4,none,.mv (.k (.sl none 0 (.ex 0))),0⟩,oI 5 0 90])
 (.cutg 3 [4,5] [] .ret)) (.skip)))
 (.cutg 3 [0,1] [] (.seq (.reg false [oM 24 0 0,⟨some 25,none,.conv .u64 (.t 24),0⟩,⟨some 26,none,.bin .shl (.k (.i .i64 1)) (.t 25),0⟩,⟨some 27,none,.mks 83 2 16 [.f .f64 0,.f .f64 0] (.t 26) (.t 26),0⟩,oM 6 27 0])
 (.seq (.reg false [oM 28 6 0,oM 29 1 0,oA 30 2 28 29 0,oF 31 0 30 0,⟨none,none,.store 1 (.t 31) (.k (.f .f64 4607182418800017408)),0⟩])
 (.seq (.reg false [oM 32 6 0,oM 4 32 0,oI 5 0 0])
 (.cutg 3 [4,5] [] .ret))))))⟩
theorem ok29 : okFn Tryz.prog 3 Tryz.f29 a29 = true := by kernel_rfl
def a30L0 : AC := .cut [0,3] [] (.seq (.seq (.reg false [oM 4 3 0,oM 5 0 0,oG 6 5 0,oX 7 .lss 4 6 0])
 (.ite (.t 7) (.skip) (.cut [] [] (.exit 0))))
 (.cut [0,3] [] (.seq (.blk 1 (.seq (.reg false [oM 10 0 0,oM 11 3 0,oA 12 2 10 11 0,oJ 13 2 12 0,⟨some 14,none,.build [.f .f64 0,.f .f64 0] [],0⟩,oC 15 0 78 [.t 13,.t 14] 0,oN 16 15 0])
 (.ite (.t 16) (.seq (.reg false [oU 2 0])
 (.cut [2] [] .ret)) (.skip))))
 (.cut [0,3] [] (.reg false [oM 8 3 0,oY 9 .add 8 0 1,oM 3 9 0])))))
def a30 : AFn := ⟨1,17,[.t 2],
    .seq (.reg false [oU 2 0])
 (.seq (.seq (.reg false [oI 3 0 0])
 (.blk 0 (.loop a30L0)))
 (.cut [] [] (.seq (.reg false [oT 2 0])
 (.cut [2] [] .ret))))⟩
theorem ok30 : okFn Tryz.prog 3 Tryz.f30 a30 = true := by kernel_rfl
def a31L0 : AC := .cutg 3 [1,5,7,8] [] (.seq (.seq (.reg false [oM 16 8 0,oM 17 1 0,oG 18 17 0,oX 19 .lss 16 18 0])
 (.ite (.t 19) (.skip) (.cutg 3 [7] [] (.exit 0))))
 (.cutg 3 [1,5,7,8] [] (.seq (.blk 1 (.seq (.reg true [oM 22 1 0,oM 23 8 0,oA 24 2 22 23 3,oJ 25 2 24 7,oM 26 5 0,oM 27 8 0,oA 28 2 26 27 48,oJ 29 2 28 112,oC 30 0 80 [.t 25,.t 29] 255,⟨some 9,none,.alloc true 83 [.f .f64 0,.f .f64 0],0⟩,oS 2 9 30 1023])
 (.reg false [oM 31 7 0,oF 32 0 9 0,oL 33 32 0,⟨some 34,none,.pop (.fbin .mul) [.t 33,.k (.f .f64 4602678819172646912)],0⟩,oF 35 1 9 0,oL 36 35 0,⟨some 37,none,.pop (.fbin .mul) [.t 36,.k (.f .f64 4602678819172646912)],0⟩,⟨some 38,none,.build [.f .f64 0,.f .f64 0] [(0,1,.t 34),(1,1,.t 37)],0⟩,oC 39 0 81 [.t 38] 0,⟨some 40,none,.bslice 83 2 1 [.f .f64 0,.f .f64 0] [(0,2,.t 39)],0⟩,⟨some 41,none,.app 83 2 16 (.t 31) (.t 40),0⟩,oM 7 41 0])))
 (.cutg 3 [1,5,7,8] [] (.reg false [oM 20 8 0,oY 21 .add 20 0 1,oM 8 21 0])))))
def a31 : AFn := ⟨2,43,[.t 4],
    .seq (.reg false [oB 2 71 0 0,⟨some 4,none,.mv (.k (.sl none 0 (.ex 0))),0⟩])
 (.seq (.reg false [oJ 11 4 2 0,oM 12 1 0,oC 13 0 79 [.t 11,.t 12] 0,oM 10 13 0,oE 14 10 0 0,oE 15 10 1 0,oM 5 14 0,oM 6 15 0])
 (.seq (.reg false [⟨some 7,none,.mv (.k (.sl none 0 (.ex 0))),0⟩])
 (.seq (.seq (.reg false [oI 8 0 0])
 (.blk 0 (.loop a31L0)))
 (.cutg 3 [7] [] (.seq (.reg false [oM 42 7 0,oM 4 42 0])
 (.cutg 3 [4] [] .ret))))))⟩
theorem ok31 : okFn Tryz.prog 3 Tryz.f31 a31 = true := by kernel_rfl
def a32 : AFn := ⟨2,17,[.t 4],
    .seq (.reg false [oB 2 83 0 0,oB 3 83 1 0,oU 4 0])
 (.seq (.reg false [oF 5 0 2 0,oL 6 5 0,oF 7 0 3 0,oL 8 7 0,oC 9 0 82 [.t 6,.t 8] 0,oM 10 9 0,gt 10 (oF 11 1 2 0),gt 10 (oL 12 11 0),gt 10 (oF 13 1 3 0),gt 10 (oL 14 13 0),gt 10 (oC 15 0 82 [.t 12,.t 14] 0),oQ 16 10 15 0,oM 4 16 0])
 (.cut [4] [] .ret))⟩
theorem ok32 : okFn Tryz.prog 3 Tryz.f32 a32 = true := by kernel_rfl
def a33 : AFn := ⟨1,8,[.cell 2 (some 2)],
    .seq (.reg false [⟨some 2,none,.alloc true 83 [.f .f64 0,.f .f64 0],0⟩])
 (.seq (.reg false [oM 3 0 0,⟨some 4,none,.pop .re [.t 3],0⟩,oM 5 0 0,⟨some 6,none,.pop .im [.t 5],0⟩,⟨some 7,none,.build [.f .f64 0,.f .f64 0] [(0,1,.t 4),(1,1,.t 6)],0⟩,oS 2 2 7 0])
 (.cut [2] [2] .ret))⟩
theorem ok33 : okFn Tryz.prog 3 Tryz.f33 a33 = true := by kernel_rfl
def a34L0 : AC := .cut [0,1,5] [] (.seq (.seq (.reg false [oM 11 5 0,oM 12 0 0,oG 13 12 0,oX 14 .lss 11 13 0])
 (.ite (.t 14) (.skip) (.cut [] [] (.exit 0))))
 (.cut [0,1,5] [] (.seq (.blk 1 (.seq (.reg true [oM 17 0 0,oM 18 5 0,oA 19 4 17 18 3,oJ 20 4 19 7,oM 21 1 0,oM 22 5 0,oA 23 4 21 22 48,oJ 24 4 23 112,⟨some 25,none,.eqs true [0,0,0,0] (.t 20) (.t 24),255⟩])
 (.ite (.t 25) (.seq (.reg false [oU 4 0])
 (.cut [4] [] .ret)) (.skip))))
 (.cut [0,1,5] [] (.reg false [oM 15 5 0,oY 16 .add 15 0 1,oM 5 16 0])))))
def a34 : AFn := ⟨2,26,[.t 4],
    .seq (.reg false [oU 4 0])
 (.seq (.seq (.reg false [oM 6 0 0,oG 7 6 0,oM 8 1 0,oG 9 8 0,oX 10 .neq 7 9 0])
 (.ite (.t 10) (.seq (.reg false [oU 4 0])
 (.cut [4] [] .ret)) (.skip)))
 (.cut [0,1] [] (.seq (.seq (.reg false [oI 5 0 0])
 (.blk 0 (.loop a34L0)))
 (.cut [] [] (.seq (.reg false [oT 4 0])
 (.cut [4] [] .ret))))))⟩
theorem ok34 : okFn Tryz.prog 3 Tryz.f34 a34 = true := by kernel_rfl
def a35 : AFn := ⟨0,11,[.cell 0 (some 3)],
    .seq (.reg false [⟨some 0,none,.alloc true 40 [.i .i64 0,.i .i64 0,.sl none 0 (.ex 0)],0⟩])
 (.seq (.reg false [⟨some 1,none,.bslice 3 1 1 [.i .i64 0] [(0,1,.k (.i .i64 0))],0⟩,oC 2 2 39 [.k (.i .i64 9),.t 1] 0,⟨some 3,none,.bslice 3 1 2 [.i .i64 0,.i .i64 0] [(0,1,.k (.i .i64 0)),(1,1,.k (.i .i64 1))],0⟩,oC 4 2 39 [.k (.i .i64 11),.t 3] 0,⟨some 5,none,.bslice 3 1 1 [.i .i64 0] [(0,1,.k (.i .i64 0))],0⟩,⟨some 6,none,.build [.i .i64 0,.i .i64 0,.sl none 0 (.ex 0),.i .i64 0,.i .i64 0,.i .i64 0] [(0,1,.k (.i .i64 2)),(2,1,.t 5),(4,1,.k (.i .i64 (-1)))],0⟩,⟨some 7,none,.bslice 3 1 1 [.i .i64 0] [(0,1,.k (.i .i64 1))],0⟩,⟨some 8,none,.build [.i .i64 0,.i .i64 0,.sl none 0 (.ex 0),.i .i64 0,.i .i64 0,.i .i64 0] [(0,1,.k (.i .i64 2)),(2,1,.t 7),(3,1,.k (.i .i64 1)),(4,1,.k (.i .i64 (-1)))],0⟩,⟨some 9,none,.bslice 60 6 4 [.i .i64 0,.i .i64 0,.sl none 0 (.ex 0),.i .i64 0,.i .i64 0,.i .i64 0,.i .i64 0,.i .i64 0,.sl none 0 (.ex 0),.i .i64 0,.i .i64 0,.i .i64 0,.i .i64 0,.i .i64 0,.sl none 0 (.ex 0),.i .i64 0,.i .i64 0,.i .i64 0,.i .i64 0,.i .i64 0,.sl none 0 (.ex 0),.i .i64 0,.i .i64 0,.i .i64 0] [(0,6,.t 2),(6,6,.t 4),(12,6,.t 6),(18,6,.t 8)],0⟩,⟨some 10,none,.build [.i .i64 0,.i .i64 0,.sl none 0 (.ex 0)] [(0,1,.k (.i .i64 2)),(1,1,.k (.i .i64 2)),(2,1,.t 9)],0⟩,oS 3 0 10 0])
 (.cutg 3 [0] [0] .ret))⟩
theorem ok35 : okFn Tryz.prog 3 Tryz.f35 a35 = true := by kernel_rfl
def a36 : AFn := ⟨1,12,[.t 2],
    .seq (.reg false [⟨some 2,none,.mv (.k (.sl none 0 (.ex 0))),0⟩])
 (.seq (.seq (.reg false [oM 3 0 0,oC 4 0 48 [.t 3] 0,oN 5 4 0])
 (.ite (.t 5) (.seq (.reg false [⟨some 2,none,.mv (.k (.sl none 0 (.ex 0))),0⟩])
 (.cutg 3 [2] [] .ret)) (.skip)))
 (.cutg 3 [0] [] (.seq (.reg false [oM 6 0 0,⟨some 7,none,.nchk (.t 6),0⟩,oF 8 4 7 0,oF 9 3 8 0,oL 10 9 0,oC 11 1 56 [.t 10] 0,oM 2 11 0])
 (.cutg 3 [2] [] .ret))))⟩
theorem ok36 : okFn Tryz.prog 3 Tryz.f36 a36 = true := by kernel_rfl
def a37 : AFn := ⟨1,12,[.t 2],
    .seq (.reg false [⟨some 2,none,.mv (.k (.sl none 0 (.ex 0))),0⟩])
 (.seq (.seq (.reg false [oM 3 0 0,oC 4 0 48 [.t 3] 0,oN 5 4 0])
 (.ite (.t 5) (.seq (.reg false [⟨some 2,none,.mv (.k (.sl none 0 (.ex 0))),0⟩])
 (.cutg 3 [2] [] .ret)) (.skip)))
 (.cutg 3 [0] [] (.seq (.reg false [oM 6 0 0,⟨some 7,none,.nchk (.t 6),0⟩,oF 8 4 7 0,oF 9 5 8 0,oL 10 9 0,oC 11 1 57 [.t 10] 0,oM 2 11 0])
 (.cutg 3 [2] [] .ret))))⟩
theorem ok37 : okFn Tryz.prog 3 Tryz.f37 a37 = true := by kernel_rfl
def a38 : AFn := ⟨1,13,[.cell 2 (some 3)],
    .seq (.reg false [⟨some 2,none,.alloc true 24 [.i .i64 0,.sl none 0 (.ex 0),.sl none 0 (.ex 0)],0⟩])
 (.seq (.seq (.reg false [oM 3 0 0,oC 4 0 48 [.t 3] 0,oN 5 4 0])
 (.ite (.t 5) (.seq (.reg false [⟨some 6,none,.build [.i .i64 0,.sl none 0 (.ex 0),.sl none 0 (.ex 0)] [],0⟩,oS 3 2 6 0])
 (.cutg 3 [2] [2] .ret)) (.skip)))
 (.cutg 3 [0,2] [2] (.seq (.reg false [oM 7 0 0,⟨some 8,none,.nchk (.t 7),0⟩,oF 9 4 8 0,oF 10 0 9 0,oJ 11 3 10 0,oC 12 1 55 [.t 11] 0,oS 3 2 12 0])
 (.cutg 3 [2] [2] .ret))))⟩
theorem ok38 : okFn Tryz.prog 3 Tryz.f38 a38 = true := by kernel_rfl
def a39 : AFn := ⟨2,8,[.cell 4 (some 6)],
    .seq (.reg false [⟨some 4,none,.alloc true 60 [.i .i64 0,.i .i64 0,.sl none 0 (.ex 0),.i .i64 0,.i .i64 0,.i .i64 0],0⟩])
 (.seq (.reg false [oM 5 0 0,oM 6 1 0,⟨some 7,none,.build [.i .i64 0,.i .i64 0,.sl none 0 (.ex 0),.i .i64 0,.i .i64 0,.i .i64 0] [(0,1,.k (.i .i64 1)),(1,1,.t 5),(2,1,.t 6),(4,1,.k (.i .i64 (-1)))],0⟩,oS 6 4 7 0])
 (.cut [4] [4] .ret))⟩
theorem ok39 : okFn Tryz.prog 3 Tryz.f39 a39 = true := by kernel_rfl
def a40L0 : AC := .cut [3,13,14,15] [] (.seq (.reg false [oX 16 .lss 15 14 0])
 (.seq (.ite (.t 16) (.skip) (.cut [3] [] (.exit 0)))
 (.cut [3,13,14,15] [] (.seq (.blk 1 (.seq (.reg false [oA 17 6 13 15 0,oJ 18 6 17 0,⟨some 5,none,.alloc true 93 [.i .i64 0,.i .i64 0,.i .i64 0,.i .i64 0,.f .f64 0,.f .f64 0],0⟩,oS 6 5 18 0])
 (.seq (.reg false [oF 19 4 5 0,oL 20 19 0,oF 21 5 5 0,oL 22 21 0,⟨some 23,none,.pop (.fcmp .eql) [.t 20,.t 22],0⟩])
 (.ite (.t 23) (.reg false [oM 24 3 0,oY 25 .add 24 0 1,oM 3 25 0]) (.skip)))))
 (.cut [3,13,14,15] [] (.reg false [oY 26 .add 15 0 1,oM 15 26 0]))))))
def a40 : AFn := ⟨1,28,[.t 2],
    .seq (.reg false [oI 2 0 0])
 (.seq (.seq (.reg false [oM 6 0 0,oC 7 0 48 [.t 6] 0,oN 8 7 0])
 (.ite (.t 8) (.seq (.reg false [oI 2 0 0])
 (.cut [2] [] .ret)) (.skip)))
 (.cut [0] [] (.seq (.reg false [oI 3 0 0])
 (.seq (.seq (.reg false [oM 9 0 0,⟨some 10,none,.nchk (.t 9),0⟩,oF 11 4 10 0,oF 12 5 11 0,oL 13 12 0,oG 14 13 0,oI 15 0 0])
 (.blk 0 (.loop a40L0)))
 (.cut [3] [] (.seq (.reg false [oM 27 3 0,oM 2 27 0])
 (.cut [2] [] .ret)))))))⟩
theorem ok40 : okFn Tryz.prog 3 Tryz.f40 a40 = true := by kernel_rfl
def a41L0 : AC := .cut [1,31,32,33] [1] (.seq (.reg false [oX 34 .lss 33 32 0])
 (.seq (.ite (.t 34) (.skip) (.cut [] [] (.exit 0)))
 (.cut [1,31,32,33] [1] (.seq (.blk 1 (.seq (.reg false [oM 35 33 0,oA 36 6 31 33 0,oJ 37 6 36 0,⟨some 5,none,.alloc true 60 [.i .i64 0,.i .i64 0,.sl none 0 (.ex 0),.i .i64 0,.i .i64 0,.i .i64 0],0⟩,oM 4 35 0,oS 6 5 37 0])
 (.seq (.reg false [oJ 38 6 5 0,oF 39 0 1 0,oL 40 39 0,oF 41 1 1 0,oL 42 41 0,oC 43 0 83 [.t 38,.t 40,.t 42] 0,oN 44 43 0])
 (.ite (.t 44) (.seq (.reg false [oM 45 4 0,oM 2 45 0,oI 3 0 80])
 (.cut [2,3] [] .ret)) (.skip)))))
 (.cut [1,31,32,33] [1] (.reg false [oY 46 .add 33 0 1,oM 33 46 0]))))))
def a41 : AFn := ⟨1,47,[.t 2,.t 3],
    .seq (.reg false [oB 1 40 0 0,oI 2 0 0,oI 3 0 0])
 (.seq (.seq (.reg false [oF 6 0 1 0,oL 7 6 0,oY 8 .lss 7 0 0,oM 9 8 0,gf 9 (oF 10 0 1 0),gf 9 (oL 11 10 0),gf 9 (oY 12 .gtr 11 0 64),oP 13 9 12 0,oM 14 13 0,gf 14 (oF 15 1 1 0),gf 14 (oL 16 15 0),gf 14 (oY 17 .lss 16 0 0),oP 18 14 17 0,oM 19 18 0,gf 19 (oF 20 1 1 0),gf 19 (oL 21 20 0),gf 19 (oY 22 .gtr 21 0 64),oP 23 19 22 0,oM 24 23 0,gf 24 (oF 25 2 1 0),gf 24 (oL 26 25 0),gf 24 (oG 27 26 0),gf 24 (oY 28 .gtr 27 0 4096),oP 29 24 28 0])
 (.ite (.t 29) (.seq (.reg false [oI 2 0 (-1),oI 3 0 80])
 (.cut [2,3] [] .ret)) (.skip)))
 (.cut [1] [1] (.seq (.seq (.reg false [oF 30 2 1 0,oL 31 30 0,oG 32 31 0,oI 33 0 0])
 (.blk 0 (.loop a41L0)))
 (.cut [] [] (.seq (.reg false [oI 2 0 0,oI 3 0 0])
 (.cut [2,3] [] .ret))))))⟩
theorem ok41 : okFn Tryz.prog 3 Tryz.f41 a41 = true := by kernel_rfl
def a42 : AFn := ⟨1,7,[.t 2],
    .seq (.reg false [oB 1 40 0 0,oU 2 0])
 (.seq (.reg false [oF 3 2 1 0,oL 4 3 0,⟨some 5,none,.call 0 (.k (.fn (.func 84) [] [])) [.t 4,.k (.fn (.func 85) [] [])],0⟩,oN 6 5 0,oM 2 6 0])
 (.cut [2] [] .ret))⟩
theorem ok42 : okFn Tryz.prog 3 Tryz.f42 a42 = true := by kernel_rfl
def a43L0 : AC := .cutg 3 [0,2,4,15,16] [2,4] (.seq (.reg false [oX 17 .lss 16 15 0])
 (.seq (.ite (.t 17) (.skip) (.cutg 3 [2,4] [2,4] (.exit 0)))
 (.cutg 3 [0,2,4,15,16] [2,4] (.seq (.blk 1 (.seq (.reg false [oM 18 16 0,oM 5 18 0])
 (.seq (.reg true [oF 19 1 4 0,oL 20 19 1,oM 21 0 0,oM 22 5 0,⟨some 23,none,.bin .shl (.k (.i .u64 1)) (.t 22),8⟩,⟨some 24,none,.build [.i .i64 0,.i .u64 0,.i .u64 0,.i .i64 0] [(0,1,.t 21),(2,1,.t 23)],28⟩,⟨some 25,none,.bslice 71 4 1 [.i .i64 0,.i .u64 0,.i .u64 0,.i .i64 0] [(0,4,.t 24)],60⟩,⟨some 26,none,.app 71 4 32 (.t 20) (.t 25),127⟩,oF 27 1 4 255,oS 1 27 26 511])
 (.reg true [oF 28 2 4 0,oL 29 28 1,oM 30 0 0,oM 31 5 0,⟨some 32,none,.bin .shl (.k (.i .u64 1)) (.t 31),8⟩,⟨some 33,none,.build [.i .i64 0,.i .u64 0,.i .u64 0,.i .i64 0] [(0,1,.t 30),(1,1,.t 32)],28⟩,⟨some 34,none,.bslice 71 4 1 [.i .i64 0,.i .u64 0,.i .u64 0,.i .i64 0] [(0,4,.t 33)],60⟩,⟨some 35,none,.app 71 4 32 (.t 29) (.t 34),127⟩,oF 36 2 4 255,oS 1 36 35 511]))))
 (.cutg 3 [0,2,4,15,16] [2,4] (.reg false [oY 37 .add 16 0 1,oM 16 37 0]))))))
def a43 : AFn := ⟨1,39,[.cell 2 (some 3),.t 3],
    .seq (.reg false [⟨some 2,none,.alloc true 24 [.i .i64 0,.sl none 0 (.ex 0),.sl none 0 (.ex 0)],0⟩,oI 3 0 0])
 (.seq (.seq (.reg false [oM 6 0 0,oY 7 .lss 6 0 0,oM 8 7 0,gf 8 (oM 9 0 0),gf 8 (oY 10 .gtr 9 0 64),oP 11 8 10 0])
 (.ite (.t 11) (.seq (.reg false [⟨some 12,none,.build [.i .i64 0,.sl none 0 (.ex 0),.sl none 0 (.ex 0)] [],0⟩,oS 3 2 12 0,oI 3 0 2])
 (.cutg 3 [2,3] [2] .ret)) (.skip)))
 (.cutg 3 [0,2] [2] (.seq (.reg false [oM 13 0 0,⟨some 14,none,.build [.i .i64 0,.sl none 0 (.ex 0),.sl none 0 (.ex 0)] [(0,1,.t 13)],0⟩,⟨some 4,none,.alloc true 24 [.i .i64 0,.sl none 0 (.ex 0),.sl none 0 (.ex 0)],0⟩,oS 3 4 14 0])
 (.seq (.seq (.reg false [oM 15 0 0,oI 16 0 0])
 (.blk 0 (.loop a43L0)))
 (.cutg 3 [2,4] [2,4] (.seq (.reg false [oJ 38 3 4 0,oS 3 2 38 0,oI 3 0 0])
 (.cutg 3 [2,3] [2] .ret)))))))⟩
theorem ok43 : okFn Tryz.prog 3 Tryz.f43 a43 = true := by kernel_rfl
def a44L0 : AC := .cutg 3 [2,3,12,13,14] [2,3] (.seq (.reg false [oX 15 .lss 14 13 0])
 (.seq (.ite (.t 15) (.skip) (.cutg 3 [2,3] [2,3] (.exit 0)))
 (.cutg 3 [2,3,12,13,14] [2,3] (.seq (.blk 1 (.seq (.reg false [oA 16 6 12 14 0,oJ 17 6 16 0,⟨some 5,none,.alloc true 60 [.i .i64 0,.i .i64 0,.sl none 0 (.ex 0),.i .i64 0,.i .i64 0,.i .i64 0],0⟩,oS 6 5 17 0])
 (.seq (.reg false [oF 18 2 5 0,oL 19 18 0,oC 20 0 56 [.t 19] 0,oF 21 2 5 0,oS 1 21 20 0])
 (.reg false [oF 22 2 3 0,oL 23 22 0,oJ 24 6 5 0,⟨some 25,none,.bslice 60 6 1 [.i .i64 0,.i .i64 0,.sl none 0 (.ex 0),.i .i64 0,.i .i64 0,.i .i64 0] [(0,6,.t 24)],0⟩,⟨some 26,none,.app 60 6 64 (.t 23) (.t 25),0⟩,oF 27 2 3 0,oS 1 27 26 0]))))
 (.cutg 3 [2,3,12,13,14] [2,3] (.reg false [oY 28 .add 14 0 1,oM 14 28 0]))))))
def a44 : AFn := ⟨1,30,[.cell 2 (some 3)],
    .seq (.reg false [oB 1 40 0 0,⟨some 2,none,.alloc true 40 [.i .i64 0,.i .i64 0,.sl none 0 (.ex 0)],0⟩])
 (.seq (.reg false [oF 6 0 1 0,oL 7 6 0,oF 8 1 1 0,oL 9 8 0,⟨some 10,none,.build [.i .i64 0,.i .i64 0,.sl none 0 (.ex 0)] [(0,1,.t 7),(1,1,.t 9)],0⟩,⟨some 3,none,.alloc true 40 [.i .i64 0,.i .i64 0,.sl none 0 (.ex 0)],0⟩,oS 3 3 10 0])
 (.seq (.seq (.reg false [oF 11 2 1 0,oL 12 11 0,oG 13 12 0,oI 14 0 0])
 (.blk 0 (.loop a44L0)))
 (.cutg 3 [2,3] [2,3] (.seq (.reg false [oJ 29 3 3 0,oS 3 2 29 0])
 (.cutg 3 [2] [2] .ret)))))⟩
theorem ok44 : okFn Tryz.prog 3 Tryz.f44 a44 = true := by kernel_rfl
def a48 : AFn := ⟨1,11,[.t 2],
    .seq (.reg false [oU 2 0])
 (.seq (.reg false [oM 3 0 0,⟨some 4,none,.pop (.pnil true) [.t 3],0⟩,oM 5 4 0,gt 5 (oM 6 0 0),gt 5 ⟨some 7,none,.nchk (.t 6),0⟩,gt 5 (oF 8 0 7 0),gt 5 (oL 9 8 0),oQ 10 5 9 0,oM 2 10 0])
 (.cut [2] [] .ret))⟩
theorem ok48 : okFn Tryz.prog 3 Tryz.f48 a48 = true := by kernel_rfl
def a55 : AFn := ⟨1,12,[.cell 2 (some 3)],
    .seq (.reg false [oB 1 24 0 0,⟨some 2,none,.alloc true 24 [.i .i64 0,.sl none 0 (.ex 0),.sl none 0 (.ex 0)],0⟩])
 (.seq (.reg true [oF 3 1 1 0,oL 4 3 1,oC 5 1 91 [.t 4] 3,oF 6 2 1 0,oL 7 6 8,oC 8 1 91 [.t 7] 31,oF 9 1 1 31,oS 1 9 5 127,oF 10 2 1 255,oS 1 10 8 511])
 (.seq (.reg false [oJ 11 3 1 0,oS 3 2 11 0])
 (.cutg 3 [2] [2] .ret)))⟩
theorem ok55 : okFn Tryz.prog 3 Tryz.f55 a55 = true := by kernel_rfl
def a56 : AFn := ⟨1,8,[.t 2],
    .seq (.reg false [⟨some 2,none,.mv (.k (.sl none 0 (.ex 0))),0⟩])
 (.seq (.seq (.reg false [oM 3 0 0,⟨some 4,none,.eqnil false (.t 3),0⟩])
 (.ite (.t 4) (.seq (.reg false [⟨some 2,none,.mv (.k (.sl none 0 (.ex 0))),0⟩])
 (.cutg 3 [2] [] .ret)) (.skip)))
 (.cutg 3 [0] [] (.seq (.reg false [⟨some 5,none,.bslice 3 1 0 [] [],0⟩,oM 6 0 0,⟨some 7,none,.app 3 1 8 (.t 5) (.t 6),0⟩,oM 2 7 0])
 (.cutg 3 [2] [] .ret))))⟩
theorem ok56 : okFn Tryz.prog 3 Tryz.f56 a56 = true := by kernel_rfl
def a57 : AFn := ⟨1,8,[.t 2],
    .seq (.reg false [⟨some 2,none,.mv (.k (.sl none 0 (.ex 0))),0⟩])
 (.seq (.seq (.reg false [oM 3 0 0,⟨some 4,none,.eqnil false (.t 3),0⟩])
 (.ite (.t 4) (.seq (.reg false [⟨some 2,none,.mv (.k (.sl none 0 (.ex 0))),0⟩])
 (.cutg 3 [2] [] .ret)) (.skip)))
 (.cutg 3 [0] [] (.seq (.reg false [⟨some 5,none,.bslice 93 6 0 [] [],0⟩,oM 6 0 0,⟨some 7,none,.app 93 6 48 (.t 5) (.t 6),0⟩,oM 2 7 0])
 (.cutg 3 [2] [] .ret))))⟩
theorem ok57 : okFn Tryz.prog 3 Tryz.f57 a57 = true := by kernel_rfl
def a58 : AFn := ⟨3,42,[.t 6,.t 7],
    .seq (.reg false [oB 4 60 1 0,oU 6 0,oI 7 0 0])
 (.seq (.seq (.reg true [oF 8 4 4 0,oL 9 8 1,oY 10 .lss 9 3 0,oM 11 10 7,gf 11 (oM 12 0 15),gf 11 ⟨some 13,none,.nchk (.t 12),31⟩,gf 11 (oF 14 4 13 63),gf 11 (oF 15 3 14 127),gf 11 (oL 16 15 255),gf 11 (oF 17 4 4 15),gf 11 (oL 18 17 527),gf 11 (oA 19 1 16 18 2047),gf 11 (oL 20 19 4095),gf 11 (oF 21 5 4 15),gf 11 (oL 22 21 8207),gf 11 (oX 23 .eql 20 22 32767),oP 24 11 23 65535])
 (.ite (.t 24) (.reg true [oM 26 0 0,oM 27 0 0,⟨some 28,none,.nchk (.t 27),2⟩,oF 29 4 28 6,oF 30 0 29 14,oJ 31 3 30 30,oF 32 1 4 0,oL 33 32 64,oF 34 2 4 0,oL 35 34 256,oC 36 0 92 [.t 31,.t 33,.t 35] 1022,oM 25 36 2046,oE 37 25 0 4094,oE 38 25 1 4094,⟨some 39,none,.nchk (.t 26),8191⟩,oF 40 4 39 24575,oF 41 0 40 57343,oS 3 41 37 122879]) (.skip)))
 (.cut [] [] (.seq (.reg false [oU 6 0,oI 7 0 0])
 (.cut [6,7] [] .ret))))⟩
theorem ok58 : okFn Tryz.prog 3 Tryz.f58 a58 = true := by kernel_rfl
def a59 : AFn := ⟨3,59,[.t 6,.t 7],
    .seq (.reg false [oB 4 60 1 0,oU 6 0,oI 7 0 0])
 (.seq (.reg false [oM 11 0 0,oJ 12 6 4 0,oM 13 2 0,oC 14 0 93 [.t 11,.t 12,.t 13] 0,oM 10 14 0,oE 15 10 0 0,oE 16 10 1 0,⟨some 8,none,.alloc true 93 [.i .i64 0,.i .i64 0,.i .i64 0,.i .i64 0,.f .f64 0,.f .f64 0],0⟩,oS 6 8 15 0,oM 9 16 0])
 (.seq (.seq (.reg false [oM 17 9 0,oY 18 .neq 17 0 0])
 (.ite (.t 18) (.seq (.reg false [oM 19 9 0,oU 6 0,oM 7 19 0])
 (.cutg 3 [6,7] [] .ret)) (.skip)))
 (.cutg 3 [0,4,8] [4,8] (.seq (.reg true [oM 21 0 0,oM 22 0 0,⟨some 23,none,.nchk (.t 22),2⟩,oF 24 4 23 6,oF 25 0 24 14,oJ 26 3 25 30,oF 27 1 8 0,oL 28 27 64,oF 29 3 8 0,oL 30 29 256,oC 31 0 94 [.t 26,.t 28,.t 30] 1022,oM 20 31 2046,oE 32 20 0 4094,oE 33 20 1 4094,⟨some 34,none,.nchk (.t 21),8191⟩,oF 35 4 34 24575,oF 36 0 35 57343,oS 3 36 32 122879])
 (.seq (.reg true [oM 37 0 0,⟨some 38,none,.nchk (.t 37),1⟩,oF 39 4 38 3,oF 40 3 39 7,oL 41 40 15,oF 42 3 4 0,oL 43 42 32,oF 44 3 8 0,oL 45 44 128,oA 46 1 41 43 511,oS 1 46 45 1023])
 (.seq (.reg true [oM 47 0 0,oM 48 0 0,⟨some 49,none,.nchk (.t 48),2⟩,oF 50 4 49 6,oF 51 5 50 14,oL 52 51 30,oJ 53 6 8 0,⟨some 54,none,.bslice 93 6 1 [.i .i64 0,.i .i64 0,.i .i64 0,.i .i64 0,.f .f64 0,.f .f64 0] [(0,6,.t 53)],64⟩,⟨some 55,none,.app 93 6 48 (.t 52) (.t 54),254⟩,⟨some 56,none,.nchk (.t 47),511⟩,oF 57 4 56 1023,oF 58 5 57 2047,oS 1 58 55 4095])
 (.seq (.reg false [oT 6 0,oI 7 0 0])
 (.cutg 3 [6,7] [] .ret))))))))⟩
theorem ok59 : okFn Tryz.prog 3 Tryz.f59 a59 = true := by kernel_rfl
def a60 : AFn := ⟨3,50,[.t 6,.t 7],
    .seq (.reg false [oB 4 60 1 0,oU 6 0,oI 7 0 0])
 (.seq (.reg false [oM 11 0 0,oJ 12 6 4 0,oM 13 2 0,oC 14 0 93 [.t 11,.t 12,.t 13] 0,oM 10 14 0,oE 15 10 0 0,oE 16 10 1 0,⟨some 8,none,.alloc true 93 [.i .i64 0,.i .i64 0,.i .i64 0,.i .i64 0,.f .f64 0,.f .f64 0],0⟩,oS 6 8 15 0,oM 9 16 0])
 (.seq (.seq (.reg false [oM 17 9 0,oY 18 .neq 17 0 0])
 (.ite (.t 18) (.seq (.reg false [oM 19 9 0,oU 6 0,oM 7 19 0])
 (.cutg 3 [6,7] [] .ret)) (.skip)))
 (.cutg 3 [0,8] [8] (.seq (.reg false [oF 20 2 8 0,⟨none,none,.store 1 (.t 20) (.k (.i .i64 (-1))),0⟩])
 (.seq (.reg true [oM 22 0 0,oM 23 0 0,⟨some 24,none,.nchk (.t 23),2⟩,oF 25 4 24 6,oF 26 0 25 14,oJ 27 3 26 30,oF 28 1 8 0,oL 29 28 64,oF 30 3 8 0,oL 31 30 256,oC 32 0 95 [.t 27,.t 29,.t 31] 1022,oM 21 32 2046,oE 33 21 0 4094,oE 34 21 1 4094,⟨some 35,none,.nchk (.t 22),8191⟩,oF 36 4 35 24575,oF 37 0 36 57343,oS 3 37 33 122879])
 (.seq (.reg true [oM 38 0 0,oM 39 0 0,⟨some 40,none,.nchk (.t 39),2⟩,oF 41 4 40 6,oF 42 5 41 14,oL 43 42 30,oJ 44 6 8 0,⟨some 45,none,.bslice 93 6 1 [.i .i64 0,.i .i64 0,.i .i64 0,.i .i64 0,.f .f64 0,.f .f64 0] [(0,6,.t 44)],64⟩,⟨some 46,none,.app 93 6 48 (.t 43) (.t 45),254⟩,⟨some 47,none,.nchk (.t 38),511⟩,oF 48 4 47 1023,oF 49 5 48 2047,oS 1 49 46 4095])
 (.seq (.reg false [oT 6 0,oI 7 0 0])
 (.cutg 3 [6,7] [] .ret))))))))⟩
theorem ok60 : okFn Tryz.prog 3 Tryz.f60 a60 = true := by kernel_rfl
def a61 : AFn := ⟨3,8,[.t 6,.t 7],
    .seq (.reg false [oB 4 60 1 0,oU 6 0,oI 7 0 0])
 (.seq (.reg false [oU 6 0,oI 7 0 0])
 (.cut [6,7] [] .ret))⟩
theorem ok61 : okFn Tryz.prog 3 Tryz.f61 a61 = true := by kernel_rfl
def a68 : AFn := ⟨1,11,[.t 2],
    .seq (.reg false [oB 1 71 0 0,oU 2 0])
 (.seq (.reg false [oJ 3 4 1 0,oC 4 0 71 [.t 3] 0,oM 5 4 0,gt 5 (oF 6 3 1 0),gt 5 (oL 7 6 0),gt 5 (oY 8 .rem 7 0 2),gt 5 (oY 9 .eql 8 0 0),oQ 10 5 9 0,oM 2 10 0])
 (.cut [2] [] .ret))⟩
theorem ok68 : okFn Tryz.prog 3 Tryz.f68 a68 = true := by kernel_rfl
def a69 : AFn := ⟨2,20,[.t 4],
    .seq (.reg false [oB 2 71 0 0,oB 3 71 1 0,oU 4 0])
 (.seq (.reg true [oF 5 1 2 0,oL 6 5 1,oF 7 2 3 0,oL 8 7 4,oX 9 .and 6 8 15,oC 10 0 72 [.t 9] 31,oF 11 2 2 0,oL 12 11 64,oF 13 1 3 0,oL 14 13 256,oX 15 .and 12 14 960,oC 16 0 72 [.t 15] 2047,oX 17 .add 10 16 4095,oY 18 .rem 17 8191 2,oY 19 .eql 18 16383 0,oM 4 19 32767])
 (.cut [4] [] .ret))⟩
theorem ok69 : okFn Tryz.prog 3 Tryz.f69 a69 = true := by kernel_rfl
def a70 : AFn := ⟨1,24,[.t 2,.t 3],
    .seq (.reg false [oI 2 0 0,oI 3 0 0])
 (.seq (.reg false [oM 5 0 0,oG 6 5 0,⟨some 7,none,.conv .u64 (.t 6),0⟩,oC 8 0 102 [.t 7] 0,oY 9 .sub 8 0 1,oM 4 9 0])
 (.seq (.seq (.reg false [oM 10 4 0,oY 11 .lss 10 0 0,oM 12 11 0,gf 12 (oM 13 4 0),gf 12 (oY 14 .gtr 13 0 12),oP 15 12 14 0,oM 16 15 0,gf 16 (oM 17 0 0),gf 16 (oG 18 17 0),gf 16 (oM 19 4 0),gf 16 ⟨some 20,none,.bin .shl (.k (.i .i64 1)) (.t 19),0⟩,gf 16 (oX 21 .neq 18 20 0),oP 22 16 21 0])
 (.ite (.t 22) (.seq (.reg false [oI 2 0 0,oI 3 0 90])
 (.cut [2,3] [] .ret)) (.skip)))
 (.cut [4] [] (.seq (.reg false [oM 23 4 0,oM 2 23 0,oI 3 0 0])
 (.cut [2,3] [] .ret)))))⟩
theorem ok70 : okFn Tryz.prog 3 Tryz.f70 a70 = true := by kernel_rfl
def a71 : AFn := ⟨1,6,[.t 2],
    .seq (.reg false [oB 1 71 0 0,oU 2 0])
 (.seq (.reg false [oJ 3 4 1 0,oC 4 0 103 [.t 3] 0,oY 5 .eql 4 0 0,oM 2 5 0])
 (.cut [2] [] .ret))⟩
theorem ok71 : okFn Tryz.prog 3 Tryz.f71 a71 = true := by kernel_rfl
def a72 : AFn := ⟨1,35,[.t 2],
    .seq (.reg false [oI 2 0 0])
 (.seq (.reg false [oM 3 0 0,⟨some 4,none,.bin .shr (.t 3) (.k (.i .u64 1)),0⟩,⟨some 5,none,.bin .and (.t 4) (.k (.i .u64 6148914691236517205)),0⟩,oM 6 0 0,⟨some 7,none,.bin .and (.t 6) (.k (.i .u64 6148914691236517205)),0⟩,oX 8 .add 5 7 0,oM 0 8 0])
 (.seq (.reg false [oM 9 0 0,⟨some 10,none,.bin .shr (.t 9) (.k (.i .u64 2)),0⟩,⟨some 11,none,.bin .and (.t 10) (.k (.i .u64 3689348814741910323)),0⟩,oM 12 0 0,⟨some 13,none,.bin .and (.t 12) (.k (.i .u64 3689348814741910323)),0⟩,oX 14 .add 11 13 0,oM 0 14 0])
 (.seq (.reg false [oM 15 0 0,⟨some 16,none,.bin .shr (.t 15) (.k (.i .u64 4)),0⟩,oM 17 0 0,oX 18 .add 16 17 0,⟨some 19,none,.bin .and (.t 18) (.k (.i .u64 1085102592571150095)),0⟩,oM 0 19 0])
 (.seq (.reg false [oM 20 0 0,oM 21 0 0,⟨some 22,none,.bin .shr (.t 21) (.k (.i .u64 8)),0⟩,oX 23 .add 20 22 0,oM 0 23 0])
 (.seq (.reg false [oM 24 0 0,oM 25 0 0,⟨some 26,none,.bin .shr (.t 25) (.k (.i .u64 16)),0⟩,oX 27 .add 24 26 0,oM 0 27 0])
 (.seq (.reg false [oM 28 0 0,oM 29 0 0,⟨some 30,none,.bin .shr (.t 29) (.k (.i .u64 32)),0⟩,oX 31 .add 28 30 0,oM 0 31 0])
 (.seq (.reg false [oM 32 0 0,⟨some 33,none,.conv .i64 (.t 32),0⟩,oY 34 .and 33 0 127,oM 2 34 0])
 (.cut [2] [] .ret))))))))⟩
theorem ok72 : okFn Tryz.prog 3 Tryz.f72 a72 = true := by kernel_rfl
def a73 : AFn := ⟨1,5,[.t 2],
    .seq (.reg false [⟨some 2,none,.mv (.k (.c .f64 0 0)),0⟩])
 (.seq (.reg false [oM 3 0 0,⟨some 4,none,.call 0 (.k (.fn (.func 104) [] [])) [.t 3,.k (.fn (.func 105) [] [])],0⟩,oM 2 4 0])
 (.cut [2] [] .ret))⟩
theorem ok73 : okFn Tryz.prog 3 Tryz.f73 a73 = true := by kernel_rfl
def a74 : AFn := ⟨2,28,[.t 4],
    .seq (.reg false [⟨some 4,none,.mv (.k (.c .f64 0 0)),0⟩])
 (.seq (.seq (.reg false [oM 5 1 0,oY 6 .and 5 0 3])
 (.blk 0 (.seq (.reg false [oY 8 .eql 6 0 1,oM 7 8 0])
 (.ite (.t 7) (.seq (.reg false [oM 9 0 0,⟨some 10,none,.pop .im [.t 9],0⟩,⟨some 11,none,.pop .fneg [.t 10],0⟩,oM 12 0 0,⟨some 13,none,.pop .re [.t 12],0⟩,⟨some 14,none,.pop .mk [.t 11,.t 13],0⟩,oM 4 14 0])
 (.cut [4] [] .ret)) (.seq (.reg false [oY 16 .eql 6 0 2,oM 15 16 0])
 (.ite (.t 15) (.seq (.reg false [oM 17 0 0,oC 18 0 106 [.t 17] 0,oM 4 18 0])
 (.cut [4] [] .ret)) (.seq (.reg false [oY 20 .eql 6 0 3,oM 19 20 0])
 (.ite (.t 19) (.seq (.reg false [oM 21 0 0,⟨some 22,none,.pop .im [.t 21],0⟩,oM 23 0 0,⟨some 24,none,.pop .re [.t 23],0⟩,⟨some 25,none,.pop .fneg [.t 24],0⟩,⟨some 26,none,.pop .mk [.t 22,.t 25],0⟩,oM 4 26 0])
 (.cut [4] [] .ret)) (.skip)))))))))
 (.cut [0] [] (.seq (.reg false [oM 27 0 0,oM 4 27 0])
 (.cut [4] [] .ret))))⟩
theorem ok74 : okFn Tryz.prog 3 Tryz.f74 a74 = true := by kernel_rfl
def a75L0 : AC := .cut [0,1,7,8] [] (.seq (.reg false [oX 9 .lss 8 7 0])
 (.seq (.ite (.t 9) (.skip) (.cut [] [] (.exit 0)))
 (.cut [0,1,7,8] [] (.seq (.blk 1 (.seq (.reg false [oM 10 8 0,oM 5 10 0])
 (.seq (.reg false [oM 11 1 0,oM 12 0 0,oM 13 5 0,oA 14 1 12 13 0,oL 15 14 0,⟨some 16,none,.call 0 (.t 11) [.t 15],0⟩])
 (.ite (.t 16) (.seq (.reg false [oM 17 5 0,oM 4 17 0])
 (.cut [4] [] .ret)) (.skip)))))
 (.cut [0,1,7,8] [] (.reg false [oY 18 .add 8 0 1,oM 8 18 0]))))))
def a75 : AFn := ⟨2,19,[.t 4],
    .seq (.reg false [oI 4 0 0])
 (.seq (.seq (.reg false [oM 6 0 0,oG 7 6 0,oI 8 0 0])
 (.blk 0 (.loop a75L0)))
 (.cut [] [] (.seq (.reg false [oI 4 0 (-1)])
 (.cut [4] [] .ret))))⟩
theorem ok75 : okFn Tryz.prog 3 Tryz.f75 a75 = true := by kernel_rfl
def a76L0 : AC := .cut [1,3] [1] (.seq (.seq (.reg false [oM 24 3 0,oY 25 .lss 24 0 64])
 (.ite (.t 25) (.skip) (.cut [] [] (.exit 0))))
 (.cut [1,3] [1] (.seq (.blk 1 (.seq (.reg false [oF 28 1 1 0,oL 29 28 0,oM 30 3 0,oC 31 0 107 [.t 29,.t 30] 0,oY 32 .eql 31 0 1,oM 33 32 0,gf 33 (oF 34 2 1 0),gf 33 (oL 35 34 0),gf 33 (oM 36 3 0),gf 33 (oC 37 0 107 [.t 35,.t 36] 0),gf 33 (oY 38 .eql 37 0 1),oP 39 33 38 0])
 (.ite (.t 39) (.seq (.reg false [oU 2 0])
 (.cut [2] [] .ret)) (.skip))))
 (.cut [1,3] [1] (.reg false [oM 26 3 0,oY 27 .add 26 0 1,oM 3 27 0])))))
def a76 : AFn := ⟨1,40,[.t 2],
    .seq (.reg false [oB 1 71 0 0,oU 2 0])
 (.seq (.seq (.reg false [oF 4 0 1 0,oL 5 4 0,oY 6 .lss 5 0 0,oM 7 6 0,gf 7 (oF 8 0 1 0),gf 7 (oL 9 8 0),gf 7 (oY 10 .gtr 9 0 64),oP 11 7 10 0,oM 12 11 0,gf 12 (oF 13 3 1 0),gf 12 (oL 14 13 0),gf 12 (oY 15 .lss 14 0 0),oP 16 12 15 0,oM 17 16 0,gf 17 (oF 18 3 1 0),gf 17 (oL 19 18 0),gf 17 (oY 20 .gtr 19 0 3),oP 21 17 20 0])
 (.ite (.t 21) (.seq (.reg false [oU 2 0])
 (.cut [2] [] .ret)) (.skip)))
 (.cut [1] [1] (.seq (.seq (.reg false [oF 22 0 1 0,oL 23 22 0,oM 3 23 0])
 (.blk 0 (.loop a76L0)))
 (.cut [] [] (.seq (.reg false [oT 2 0])
 (.cut [2] [] .ret))))))⟩
theorem ok76 : okFn Tryz.prog 3 Tryz.f76 a76 = true := by kernel_rfl
def a77L0 : AC := .cut [5,6] [] (.seq (.seq (.reg false [oM 18 6 0,⟨some 19,none,.bin .gtr (.t 18) (.k (.i .u64 0)),0⟩])
 (.ite (.t 19) (.skip) (.cut [5] [] (.exit 0))))
 (.cut [5,6] [] (.seq (.blk 1 (.reg false [oM 24 5 0,oY 25 .add 24 0 1,oM 5 25 0]))
 (.cut [5,6] [] (.reg false [oM 20 6 0,oM 21 6 0,⟨some 22,none,.bin .sub (.t 21) (.k (.i .u64 1)),0⟩,oX 23 .and 20 22 0,oM 6 23 0])))))
def a77 : AFn := ⟨2,29,[.t 4],
    .seq (.reg false [oB 2 71 0 0,oB 3 71 1 0,oU 4 0])
 (.seq (.reg false [oI 5 0 0])
 (.seq (.seq (.reg false [oF 7 1 2 0,oL 8 7 0,oF 9 2 3 0,oL 10 9 0,oX 11 .and 8 10 0,oF 12 2 2 0,oL 13 12 0,oF 14 1 3 0,oL 15 14 0,oX 16 .and 13 15 0,oX 17 .xor 11 16 0,oM 6 17 0])
 (.blk 0 (.loop a77L0)))
 (.cut [5] [] (.seq (.reg false [oM 26 5 0,oY 27 .rem 26 0 2,oY 28 .eql 27 0 0,oM 4 28 0])
 (.cut [4] [] .ret)))))⟩
theorem ok77 : okFn Tryz.prog 3 Tryz.f77 a77 = true := by kernel_rfl
def a78 : AFn := ⟨2,17,[.t 4],
    .seq (.reg false [oB 2 83 0 0,oB 3 83 1 0,oU 4 0])
 (.seq (.reg false [oF 5 0 2 0,oL 6 5 0,oF 7 0 3 0,oL 8 7 0,⟨some 9,none,.pop (.fcmp .eql) [.t 6,.t 8],0⟩,oM 10 9 0,gt 10 (oF 11 1 2 0),gt 10 (oL 12 11 0),gt 10 (oF 13 1 3 0),gt 10 (oL 14 13 0),gt 10 ⟨some 15,none,.pop (.fcmp .eql) [.t 12,.t 14],0⟩,oQ 16 10 15 0,oM 4 16 0])
 (.cut [4] [] .ret))⟩
theorem ok78 : okFn Tryz.prog 3 Tryz.f78 a78 = true := by kernel_rfl
def a79L0 : AC := .cutg 3 [1,2,6,7,8] [2] (.seq (.seq (.reg false [oM 29 8 0,oM 30 6 0,oX 31 .lss 29 30 0])
 (.ite (.t 31) (.skip) (.cutg 3 [1,2,6,7] [2] (.exit 0))))
 (.cutg 3 [1,2,6,7,8] [2] (.seq (.blk 1 (.reg false [oM 34 7 0,oJ 35 4 2 0,oM 36 8 0,oC 37 0 109 [.t 35,.t 36] 0,⟨some 38,none,.bslice 5 1 1 [.i .u8 0] [(0,1,.t 37)],0⟩,⟨some 39,none,.app 5 1 1 (.t 34) (.t 38),0⟩,oM 7 39 0]))
 (.cutg 3 [1,2,6,7,8] [2] (.reg false [oM 32 8 0,oY 33 .add 32 0 1,oM 8 33 0])))))
def a79L1 : AC := .cutg 3 [1,2,6,7,9,10,11,12,13] [2] (.seq (.seq (.reg false [oM 52 13 0,oM 53 6 0,oX 54 .lss 52 53 0])
 (.ite (.t 54) (.skip) (.cutg 3 [1,2,6,7,9,10,11,12] [2] (.exit 4))))
 (.cutg 3 [1,2,6,7,9,10,11,12,13] [2] (.seq (.blk 5 (.seq (.reg false [oM 57 10 0,oM 58 13 0,⟨some 59,none,.conv .u64 (.t 58),0⟩,oX 60 .shr 57 59 0,oY 61 .and 60 0 1,oY 62 .eql 61 0 1,oM 14 62 0])
 (.seq (.reg false [oM 63 7 0,oM 64 13 0,oA 65 1 63 64 0,oL 66 65 0])
 (.blk 6 (.seq (.reg false [⟨some 68,none,.bin .eql (.t 66) (.k (.i .u8 88)),0⟩,oM 67 68 0])
 (.ite (.t 67) (.reg false [oM 69 11 0,oM 70 13 0,⟨some 71,none,.conv .u64 (.t 70),0⟩,⟨some 72,none,.bin .shl (.k (.i .i64 1)) (.t 71),0⟩,oX 73 .xor 69 72 0,oM 11 73 0]) (.seq (.reg false [⟨some 75,none,.bin .eql (.t 66) (.k (.i .u8 89)),0⟩,oM 74 75 0])
 (.ite (.t 74) (.seq (.reg false [oM 76 11 0,oM 77 13 0,⟨some 78,none,.conv .u64 (.t 77),0⟩,⟨some 79,none,.bin .shl (.k (.i .i64 1)) (.t 78),0⟩,oX 80 .xor 76 79 0,oM 11 80 0])
 (.seq (.reg false [oM 81 12 0,oY 82 .add 81 0 1,oM 12 82 0])
 (.seq (.reg false [oM 83 14 0])
 (.ite (.t 83) (.reg false [oM 84 12 0,oY 85 .add 84 0 2,oM 12 85 0]) (.skip))))) (.seq (.reg false [⟨some 87,none,.bin .eql (.t 66) (.k (.i .u8 90)),0⟩,oM 86 87 0])
 (.ite (.t 86) (.seq (.reg false [oM 88 14 0])
 (.ite (.t 88) (.reg false [oM 89 12 0,oY 90 .add 89 0 2,oM 12 90 0]) (.skip))) (.skip)))))))))))
 (.cutg 3 [1,2,6,7,9,10,11,12,13] [2] (.reg false [oM 55 13 0,oY 56 .add 55 0 1,oM 13 56 0])))))
def a79L2 : AC := .cutg 3 [1,2,6,7,9,10] [2] (.seq (.seq (.reg false [oM 43 10 0,oM 44 1 0,oG 45 44 0,oX 46 .lss 43 45 0])
 (.ite (.t 46) (.skip) (.cutg 3 [9] [] (.exit 2))))
 (.cutg 3 [1,2,6,7,9,10] [2] (.seq (.blk 3 (.seq (.reg false [oM 49 10 0,oM 11 49 0])
 (.seq (.reg false [oF 50 3 2 0,oL 51 50 0,oM 12 51 0])
 (.seq (.seq (.reg false [oI 13 0 0])
 (.blk 4 (.loop a79L1)))
 (.cutg 3 [1,2,6,7,9,10,11,12] [2] (.reg false [oM 91 9 0,oM 92 11 0,oM 93 1 0,oM 94 10 0,oA 95 2 93 94 0,oJ 96 2 95 0,oM 97 12 0,oC 98 0 110 [.t 96,.t 97] 0,oC 99 0 81 [.t 98] 0,oA 100 2 91 92 0,oS 2 100 99 0]))))))
 (.cutg 3 [1,2,6,7,9,10] [2] (.reg false [oM 47 10 0,oY 48 .add 47 0 1,oM 10 48 0])))))
def a79 : AFn := ⟨2,102,[.t 4,.t 5],
    .seq (.reg false [oB 2 71 0 0,⟨some 4,none,.mv (.k (.sl none 0 (.ex 0))),0⟩,oI 5 0 0])
 (.seq (.reg false [oM 15 1 0,oG 16 15 0,oC 17 0 108 [.t 16] 0,oM 6 17 0])
 (.seq (.seq (.reg false [oM 18 6 0,oY 19 .lss 18 0 0])
 (.ite (.t 19) (.seq (.reg false [⟨some 4,none,.mv (.k (.sl none 0 (.ex 0))),0⟩,oI 5 0 90])
 (.cutg 3 [4,5] [] .ret)) (.skip)))
 (.cutg 3 [1,2,6] [2] (.seq (.seq (.reg false [oJ 20 4 2 0,oC 21 0 76 [.t 20] 0,oN 22 21 0,oM 23 22 0,gf 23 (oF 24 0 2 0),gf 23 (oL 25 24 0),gf 23 (oM 26 6 0),gf 23 (oX 27 .neq 25 26 0),oP 28 23 27 0])
 (.ite (.t 28) (.seq (.reg false [⟨some 4,none,.mv (.k (.sl none 0 (.ex 0))),0⟩,oI 5 0 130])
 (.cutg 3 [4,5] [] .ret)) (.skip)))
 (.cutg 3 [1,2,6] [2] (.seq (.reg false [⟨some 7,none,.mv (.k (.sl none 0 (.ex 0))),0⟩])
 (.seq (.seq (.reg false [oI 8 0 0])
 (.blk 0 (.loop a79L0)))
 (.cutg 3 [1,2,6,7] [2] (.seq (.reg false [oM 40 1 0,oG 41 40 0,⟨some 42,none,.mks 83 2 16 [.f .f64 0,.f .f64 0] (.t 41) (.t 41),0⟩,oM 9 42 0])
 (.seq (.seq (.reg false [oI 10 0 0])
 (.blk 2 (.loop a79L2)))
 (.cutg 3 [9] [] (.seq (.reg false [oM 101 9 0,oM 4 101 0,oI 5 0 0])
 (.cutg 3 [4,5] [] .ret)))))))))))))⟩
theorem ok79 : okFn Tryz.prog 3 Tryz.f79 a79 = true := by kernel_rfl
def a80 : AFn := ⟨2,16,[.cell 4 (some 2)],
    .seq (.reg false [oB 2 83 0 0,oB 3 83 1 0,⟨some 4,none,.alloc true 83 [.f .f64 0,.f .f64 0],0⟩])
 (.seq (.reg false [oF 5 0 2 0,oL 6 5 0,oF 7 0 3 0,oL 8 7 0,⟨some 9,none,.pop (.fbin .add) [.t 6,.t 8],0⟩,oF 10 1 2 0,oL 11 10 0,oF 12 1 3 0,oL 13 12 0,⟨some 14,none,.pop (.fbin .add) [.t 11,.t 13],0⟩,⟨some 15,none,.build [.f .f64 0,.f .f64 0] [(0,1,.t 9),(1,1,.t 14)],0⟩,oS 2 4 15 0])
 (.cut [4] [4] .ret))⟩
theorem ok80 : okFn Tryz.prog 3 Tryz.f80 a80 = true := by kernel_rfl
def a81 : AFn := ⟨1,10,[.cell 2 (some 2)],
    .seq (.reg false [oB 1 83 0 0,⟨some 2,none,.alloc true 83 [.f .f64 0,.f .f64 0],0⟩])
 (.seq (.reg false [oF 3 0 1 0,oL 4 3 0,⟨some 5,none,.pop (.fbin .add) [.t 4,.k (.f .f64 0)],0⟩,oF 6 1 1 0,oL 7 6 0,⟨some 8,none,.pop (.fbin .add) [.t 7,.k (.f .f64 0)],0⟩,⟨some 9,none,.build [.f .f64 0,.f .f64 0] [(0,1,.t 5),(1,1,.t 8)],0⟩,oS 2 2 9 0])
 (.cut [2] [2] .ret))⟩
theorem ok81 : okFn Tryz.prog 3 Tryz.f81 a81 = true := by kernel_rfl
def a82 : AFn := ⟨2,10,[.t 4],
    .seq (.reg false [oU 4 0])
 (.seq (.reg false [oM 5 0 0,oC 6 0 111 [.t 5] 0,oM 7 1 0,oC 8 0 111 [.t 7] 0,oX 9 .eql 6 8 0,oM 4 9 0])
 (.cut [4] [] .ret))⟩
theorem ok82 : okFn Tryz.prog 3 Tryz.f82 a82 = true := by kernel_rfl
def a83L0 : AC := .cut [1,2,3,79,80,81] [3] (.seq (.reg false [oX 82 .lss 81 80 0])
 (.seq (.ite (.t 82) (.skip) (.cut [2,3] [3] (.exit 0)))
 (.cut [1,2,3,79,80,81] [3] (.seq (.blk 1 (.seq (.reg false [oM 83 81 0,oA 84 1 79 81 0,oL 85 84 0,oM 9 83 0,oM 10 85 0])
 (.seq (.reg false [oM 86 10 0,oY 87 .lss 86 0 0,oM 88 87 0,gf 88 (oM 89 10 0),gf 88 (oM 90 1 0),gf 88 (oX 91 .geq 89 90 0),oP 92 88 91 0,oM 93 92 0,gf 93 (oF 94 2 3 0),gf 93 (oL 95 94 0),gf 93 (oM 96 9 0),gf 93 ⟨some 97,none,.slc 1 (.t 95) none (some (.t 96)) none,0⟩,gf 93 (oM 98 10 0),gf 93 (oC 99 0 113 [.t 97,.t 98] 0),oP 100 93 99 0])
 (.ite (.t 100) (.seq (.reg false [oU 6 0])
 (.cut [6] [] .ret)) (.skip)))))
 (.cut [1,2,3,79,80,81] [3] (.reg false [oY 101 .add 81 0 1,oM 81 101 0]))))))
def a83 : AFn := ⟨3,137,[.t 6],
    .seq (.reg false [oB 3 60 0 0,oU 6 0])
 (.seq (.seq (.reg false [oF 11 0 3 0,oL 12 11 0,oY 13 .eql 12 0 1])
 (.ite (.t 13) (.seq (.reg false [oF 14 4 3 0,oL 15 14 0,oY 16 .eql 15 0 (-1),oM 17 16 0,gt 17 (oF 18 5 3 0),gt 17 (oL 19 18 0),gt 17 (oY 20 .eql 19 0 0),oQ 21 17 20 0,oM 7 21 0])
 (.seq (.reg false [oF 22 4 3 0,oL 23 22 0,oY 24 .geq 23 0 0,oM 25 24 0,gt 25 (oF 26 4 3 0),gt 25 (oL 27 26 0),gt 25 (oM 28 2 0),gt 25 (oX 29 .lss 27 28 0),oQ 30 25 29 0,oM 31 30 0,gt 31 (oF 32 5 3 0),gt 31 (oL 33 32 0),gt 31 (oY 34 .eql 33 0 0),gt 31 (oM 35 34 0),gf 35 (oF 36 5 3 0),gf 35 (oL 37 36 0),gf 35 (oY 38 .eql 37 0 1),gt 31 (oP 39 35 38 0),oQ 40 31 39 0,oM 8 40 0])
 (.seq (.reg false [oF 41 1 3 0,oL 42 41 0,oF 43 2 3 0,oL 44 43 0,oM 45 1 0,oC 46 0 112 [.t 42,.t 44,.t 45] 0,oY 47 .eql 46 0 0,oM 48 47 0,gt 48 (oF 49 3 3 0),gt 48 (oL 50 49 0),gt 48 (oY 51 .eql 50 0 0),oQ 52 48 51 0,oM 53 52 0,gt 53 (oM 54 7 0),gt 53 (oM 55 54 0),gf 55 (oM 56 8 0),gt 53 (oP 57 55 56 0),oQ 58 53 57 0,oM 6 58 0])
 (.cut [6] [] .ret)))) (.skip)))
 (.cut [1,2,3] [3] (.seq (.seq (.reg false [oF 59 1 3 0,oL 60 59 0,oY 61 .neq 60 0 0,oM 62 61 0,gf 62 (oF 63 4 3 0),gf 62 (oL 64 63 0),gf 62 (oY 65 .neq 64 0 (-1)),oP 66 62 65 0,oM 67 66 0,gf 67 (oF 68 5 3 0),gf 67 (oL 69 68 0),gf 67 (oY 70 .neq 69 0 0),oP 71 67 70 0,oM 72 71 0,gf 72 (oF 73 2 3 0),gf 72 (oL 74 73 0),gf 72 (oG 75 74 0),gf 72 (oY 76 .eql 75 0 0),oP 77 72 76 0])
 (.ite (.t 77) (.seq (.reg false [oU 6 0])
 (.cut [6] [] .ret)) (.skip)))
 (.cut [1,2,3] [3] (.seq (.seq (.reg false [oF 78 2 3 0,oL 79 78 0,oG 80 79 0,oI 81 0 0])
 (.blk 0 (.loop a83L0)))
 (.cut [2,3] [3] (.seq (.seq (.reg false [oF 102 0 3 0,oL 103 102 0])
 (.blk 2 (.seq (.reg false [oY 105 .eql 103 0 2,oM 104 105 0])
 (.ite (.t 104) (.seq (.reg false [oF 106 2 3 0,oL 107 106 0,oG 108 107 0,oY 109 .eql 108 0 1,oM 110 109 0,gt 110 (oF 111 3 3 0),gt 110 (oL 112 111 0),gt 110 (oY 113 .geq 112 0 0),oQ 114 110 113 0,oM 115 114 0,gt 115 (oF 116 3 3 0),gt 115 (oL 117 116 0),gt 115 (oM 118 2 0),gt 115 (oX 119 .lss 117 118 0),oQ 120 115 119 0,oM 6 120 0])
 (.cut [6] [] .ret)) (.seq (.reg false [oY 122 .eql 103 0 3,oM 121 122 0])
 (.ite (.t 121) (.seq (.reg false [oF 123 2 3 0,oL 124 123 0,oG 125 124 0,oY 126 .eql 125 0 1,oM 127 126 0,gt 127 (oF 128 3 3 0),gt 127 (oL 129 128 0),gt 127 (oY 130 .eql 129 0 0),oQ 131 127 130 0,oM 6 131 0])
 (.cut [6] [] .ret)) (.seq (.reg false [oY 133 .eql 103 0 4,oM 132 133 0])
 (.ite (.t 132) (.seq (.reg false [oF 134 3 3 0,oL 135 134 0,oY 136 .eql 135 0 0,oM 6 136 0])
 (.cut [6] [] .ret)) (.skip)))))))))
 (.cut [] [] (.seq (.reg false [oU 6 0])
 (.cut [6] [] .ret))))))))))⟩
theorem ok83 : okFn Tryz.prog 3 Tryz.f83 a83 = true := by kernel_rfl
def a84 : AFn := ⟨2,9,[.t 4],
    .seq (.reg false [oU 4 0])
 (.seq (.reg false [oM 5 0 0,oM 6 1 0,oC 7 0 114 [.t 5,.t 6] 0,oY 8 .geq 7 0 0,oM 4 8 0])
 (.cut [4] [] .ret))⟩
theorem ok84 : okFn Tryz.prog 3 Tryz.f84 a84 = true := by kernel_rfl
def a85 : AFn := ⟨1,12,[.t 2],
    .seq (.reg false [oB 1 60 0 0,oU 2 0])
 (.seq (.reg false [oF 3 0 1 0,oL 4 3 0,oY 5 .eql 4 0 1,oM 6 5 0,gt 6 (oF 7 1 1 0),gt 6 (oL 8 7 0),gt 6 (oC 9 0 86 [.t 8] 0),gt 6 (oN 10 9 0),oQ 11 6 10 0,oM 2 11 0])
 (.cut [2] [] .ret))⟩
theorem ok85 : okFn Tryz.prog 3 Tryz.f85 a85 = true := by kernel_rfl
def a86 : AFn := ⟨1,9,[.t 2],
    .seq (.reg false [oU 2 0])
 (.seq (.reg false [oM 3 0 0,oY 4 .geq 3 0 1,oM 5 4 0,gt 5 (oM 6 0 0),gt 5 (oY 7 .leq 6 0 17),oQ 8 5 7 0,oM 2 8 0])
 (.cut [2] [] .ret))⟩
theorem ok86 : okFn Tryz.prog 3 Tryz.f86 a86 = true := by kernel_rfl
def a91 : AFn := ⟨1,8,[.t 2],
    .seq (.reg false [⟨some 2,none,.mv (.k (.sl none 0 (.ex 0))),0⟩])
 (.seq (.seq (.reg false [oM 3 0 0,⟨some 4,none,.eqnil false (.t 3),0⟩])
 (.ite (.t 4) (.seq (.reg false [⟨some 2,none,.mv (.k (.sl none 0 (.ex 0))),0⟩])
 (.cutg 3 [2] [] .ret)) (.skip)))
 (.cutg 3 [0] [] (.seq (.reg false [⟨some 5,none,.bslice 71 4 0 [] [],0⟩,oM 6 0 0,⟨some 7,none,.app 71 4 32 (.t 5) (.t 6),0⟩,oM 2 7 0])
 (.cutg 3 [2] [] .ret))))⟩
theorem ok91 : okFn Tryz.prog 3 Tryz.f91 a91 = true := by kernel_rfl
def a92 : AFn := ⟨3,43,[.cell 6 (some 3),.t 7],
    .seq (.reg false [oB 3 24 0 0,⟨some 4,none,.box false 57 (.t 1),0⟩,⟨some 5,none,.box false 58 (.t 2),0⟩,⟨some 6,none,.alloc true 24 [.i .i64 0,.sl none 0 (.ex 0),.sl none 0 (.ex 0)],0⟩,oI 7 0 0])
 (.seq (.seq (.reg false [oJ 12 3 3 0,oC 13 0 22 [.t 12] 0,oM 8 13 0])
 (.seq (.reg false [oM 14 8 0,oY 15 .neq 14 0 0])
 (.ite (.t 15) (.seq (.reg false [⟨some 16,none,.build [.i .i64 0,.sl none 0 (.ex 0),.sl none 0 (.ex 0)] [],0⟩,oM 17 8 0,oS 3 6 16 0,oM 7 17 0])
 (.cutg 3 [6,7] [6] .ret)) (.skip))))
 (.cutg 3 [3,4,5,6] [3,6] (.seq (.seq (.reg false [oL 18 4 0,oL 19 5 0,oF 20 0 3 0,oL 21 20 0,oC 22 0 112 [.t 18,.t 19,.t 21] 0,oM 9 22 0])
 (.seq (.reg false [oM 23 9 0,oY 24 .neq 23 0 0])
 (.ite (.t 24) (.seq (.reg false [⟨some 25,none,.build [.i .i64 0,.sl none 0 (.ex 0),.sl none 0 (.ex 0)] [],0⟩,oM 26 9 0,oS 3 6 25 0,oM 7 26 0])
 (.cutg 3 [6,7] [6] .ret)) (.skip))))
 (.cutg 3 [3,4,5,6] [3,6] (.seq (.seq (.reg false [oL 27 4 0,oC 28 0 86 [.t 27] 0,oN 29 28 0])
 (.ite (.t 29) (.seq (.reg false [⟨some 30,none,.build [.i .i64 0,.sl none 0 (.ex 0),.sl none 0 (.ex 0)] [],0⟩,oS 3 6 30 0,oI 7 0 141])
 (.cutg 3 [6,7] [6] .ret)) (.skip)))
 (.cutg 3 [3,4,5,6] [3,6] (.seq (.reg false [oJ 31 3 3 0,oC 32 1 116 [.t 31] 0,⟨some 10,none,.alloc true 24 [.i .i64 0,.sl none 0 (.ex 0),.sl none 0 (.ex 0)],0⟩,oS 3 10 32 0])
 (.seq (.reg false [⟨some 33,none,.mkf (.func 117) [] [.t 4,.t 5],0⟩,oM 11 33 0])
 (.seq (.reg false [oM 34 11 0,oF 35 1 10 0,oL 36 35 0,⟨some 37,none,.call 2 (.t 34) [.t 36],0⟩])
 (.seq (.reg false [oM 38 11 0,oF 39 2 10 0,oL 40 39 0,⟨some 41,none,.call 2 (.t 38) [.t 40],0⟩])
 (.seq (.reg false [oJ 42 3 10 0,oS 3 6 42 0,oI 7 0 0])
 (.cutg 3 [6,7] [6] .ret))))))))))))⟩
theorem ok92 : okFn Tryz.prog 3 Tryz.f92 a92 = true := by kernel_rfl
def a93 : AFn := ⟨3,61,[.cell 6 (some 6),.t 7],
    .seq (.reg false [oB 4 60 1 0,⟨some 6,none,.alloc true 93 [.i .i64 0,.i .i64 0,.i .i64 0,.i .i64 0,.f .f64 0,.f .f64 0],0⟩,oI 7 0 0])
 (.seq (.reg true [oM 14 0 0,⟨some 15,none,.nchk (.t 14),1⟩,oF 16 4 15 3,oF 17 0 16 7,oJ 18 3 17 15,oF 19 2 4 0,oL 20 19 32,⟨some 21,none,.iadr 1 (.t 20) (.k (.i .i64 0)),96⟩,oL 22 21 224,oC 23 0 119 [.t 18,.t 22] 511,oM 13 23 1023,oE 24 13 0 2047,oE 25 13 1 2047,oM 8 24 4095,oM 9 25 16383])
 (.seq (.reg false [⟨some 26,none,.build [.f .f64 0,.f .f64 0] [(0,1,.k (.f .f64 4607182418800017408)),(1,1,.k (.f .f64 0))],0⟩,⟨some 27,none,.build [.f .f64 0,.f .f64 0] [(0,1,.k (.f .f64 0)),(1,1,.k (.f .f64 4607182418800017408))],0⟩,⟨some 28,none,.build [.f .f64 0,.f .f64 0] [(0,1,.k (.f .f64 4602678819172646912)),(1,1,.k (.f .f64 4602678819172646912))],0⟩,⟨some 29,none,.build [.f .f64 0,.f .f64 0,.f .f64 0,.f .f64 0,.f .f64 0,.f .f64 0] [(0,2,.t 26),(2,2,.t 27),(4,2,.t 28)],0⟩,oM 30 8 0,⟨some 31,none,.idx 2 true 3 (.t 29) (.t 30),0⟩,⟨some 10,none,.alloc true 166 [.f .f64 0,.f .f64 0],0⟩,oS 2 10 31 0])
 (.seq (.reg false [⟨some 33,none,.iadra 1 2 (.t 10) (.k (.i .i64 0)),0⟩,oL 34 33 0,⟨some 35,none,.iadra 1 2 (.t 10) (.k (.i .i64 1)),0⟩,oL 36 35 0,oM 37 2 0,oC 38 0 120 [.t 34,.t 36,.t 37] 0,oM 32 38 0,oE 39 32 0 0,oE 40 32 1 0,oM 11 39 0,oM 12 40 0])
 (.seq (.seq (.reg false [oM 41 12 0,oY 42 .neq 41 0 0])
 (.ite (.t 42) (.seq (.reg false [⟨some 43,none,.build [.i .i64 0,.i .i64 0,.i .i64 0,.i .i64 0,.f .f64 0,.f .f64 0] [],0⟩,oS 6 6 43 0,oI 7 0 150])
 (.cut [6,7] [6] .ret)) (.skip)))
 (.cut [0,4,6,10,11] [4,6,10] (.seq (.reg true [oM 44 0 0,⟨some 45,none,.nchk (.t 44),1⟩,oF 46 4 45 3,oF 47 4 46 7,oL 48 47 15,oF 49 2 4 0,oL 50 49 32,⟨some 51,none,.iadr 1 (.t 50) (.k (.i .i64 0)),96⟩,oL 52 51 224,oF 53 3 4 0,oL 54 53 512,oM 55 11 0,⟨some 56,none,.iadra 1 2 (.t 10) (.k (.i .i64 0)),0⟩,oL 57 56 4096,⟨some 58,none,.iadra 1 2 (.t 10) (.k (.i .i64 1)),0⟩,oL 59 58 16384,⟨some 60,none,.build [.i .i64 0,.i .i64 0,.i .i64 0,.i .i64 0,.f .f64 0,.f .f64 0] [(0,1,.t 48),(1,1,.t 52),(2,1,.t 54),(3,1,.t 55),(4,1,.t 57),(5,1,.t 59)],65535⟩,oS 6 6 60 131071,oI 7 262143 0])
 (.cut [6,7] [6] .ret)))))))⟩
theorem ok93 : okFn Tryz.prog 3 Tryz.f93 a93 = true := by kernel_rfl
def a94 : AFn := ⟨3,52,[.cell 6 (some 3),.t 7],
    .seq (.reg false [oB 3 24 0 0,⟨some 6,none,.alloc true 24 [.i .i64 0,.sl none 0 (.ex 0),.sl none 0 (.ex 0)],0⟩,oI 7 0 0])
 (.seq (.reg false [oJ 11 3 3 0,oM 12 1 0,oC 13 0 119 [.t 11,.t 12] 0,oM 10 13 0,oE 14 10 0 0,oE 15 10 1 0,oM 8 14 0,oM 9 15 0])
 (.seq (.blk 0 (.seq (.reg false [oM 17 9 0,oY 18 .neq 17 0 0,oM 16 18 0])
 (.ite (.t 16) (.seq (.reg false [⟨some 19,none,.build [.i .i64 0,.sl none 0 (.ex 0),.sl none 0 (.ex 0)] [],0⟩,oM 20 9 0,oS 3 6 19 0,oM 7 20 0])
 (.cut [6,7] [6] .ret)) (.seq (.reg false [oM 22 2 0,oY 23 .neq 22 0 0,oM 24 23 0,gt 24 (oM 25 2 0),gt 24 (oY 26 .neq 25 0 1),oQ 27 24 26 0,oM 21 27 0])
 (.ite (.t 21) (.seq (.reg false [⟨some 28,none,.build [.i .i64 0,.sl none 0 (.ex 0),.sl none 0 (.ex 0)] [],0⟩,oS 3 6 28 0,oI 7 0 2])
 (.cut [6,7] [6] .ret)) (.seq (.reg false [oM 30 8 0,oM 31 2 0,⟨some 32,none,.bin .sub (.k (.i .i64 1)) (.t 31),0⟩,oX 33 .eql 30 32 0,oM 29 33 0])
 (.ite (.t 29) (.seq (.reg false [⟨some 34,none,.build [.i .i64 0,.sl none 0 (.ex 0),.sl none 0 (.ex 0)] [],0⟩,oS 3 6 34 0,oI 7 0 142])
 (.cut [6,7] [6] .ret)) (.skip))))))))
 (.cut [1,2,3,6,8] [3,6] (.seq (.seq (.reg false [oM 35 8 0,oM 36 2 0,oX 37 .eql 35 36 0])
 (.ite (.t 37) (.seq (.reg false [oJ 38 3 3 0,oC 39 0 116 [.t 38] 0,oS 3 6 39 0,oI 7 0 0])
 (.cut [6,7] [6] .ret)) (.skip)))
 (.cut [1,2,3,6] [3,6] (.seq (.reg true [oJ 40 3 3 0,oJ 41 3 3 0,oM 42 1 0,oC 43 0 122 [.t 41,.t 42] 6,oF 44 0 3 0,oL 45 44 16,oM 46 1 0,⟨some 47,none,.bin .shl (.k (.i .u64 1)) (.t 46),64⟩,oM 48 2 0,⟨some 49,none,.bin .mul (.k (.i .i64 2)) (.t 48),256⟩,⟨some 50,none,.build [.i .i64 0,.i .u64 0,.i .u64 0,.i .i64 0] [(0,1,.t 45),(2,1,.t 47),(3,1,.t 49)],1008⟩,oC 51 0 121 [.t 40,.t 43,.t 50] 2047,oS 3 6 51 4095,oI 7 8191 0])
 (.cut [6,7] [6] .ret)))))))⟩
theorem ok94 : okFn Tryz.prog 3 Tryz.f94 a94 = true := by kernel_rfl
def a95 : AFn := ⟨3,31,[.cell 6 (some 3),.t 7],
    .seq (.reg false [oB 3 24 0 0,⟨some 6,none,.alloc true 24 [.i .i64 0,.sl none 0 (.ex 0),.sl none 0 (.ex 0)],0⟩,oI 7 0 0])
 (.seq (.reg false [oJ 11 3 3 0,oM 12 1 0,oM 13 2 0,oC 14 0 94 [.t 11,.t 12,.t 13] 0,oM 10 14 0,oE 15 10 0 0,oE 16 10 1 0,⟨some 8,none,.alloc true 24 [.i .i64 0,.sl none 0 (.ex 0),.sl none 0 (.ex 0)],0⟩,oS 3 8 15 0,oM 9 16 0])
 (.seq (.seq (.reg false [oM 17 9 0,oY 18 .neq 17 0 0,oM 19 18 0,gf 19 (oM 20 2 0),gf 19 (oY 21 .eql 20 0 0),oP 22 19 21 0])
 (.ite (.t 22) (.seq (.reg false [oJ 23 3 8 0,oM 24 9 0,oS 3 6 23 0,oM 7 24 0])
 (.cutg 3 [6,7] [6] .ret)) (.skip)))
 (.cutg 3 [1,6,8] [6,8] (.seq (.reg false [oJ 25 3 8 0,oM 26 1 0,⟨some 27,none,.bslice 3 1 1 [.i .i64 0] [(0,1,.t 26)],0⟩,oC 28 0 92 [.t 25,.k (.i .i64 2),.t 27] 0,oE 29 28 0 0,oE 30 28 1 0,oS 3 6 29 0,oM 7 30 0])
 (.cutg 3 [6,7] [6] .ret)))))⟩
theorem ok95 : okFn Tryz.prog 3 Tryz.f95 a95 = true := by kernel_rfl
def a102 : AFn := ⟨1,8,[.t 2],
    .seq (.reg false [oI 2 0 0])
 (.seq (.ite (.k (.b false)) (.seq (.reg false [oM 3 0 0,⟨some 4,none,.conv .u32 (.t 3),0⟩,oC 5 0 128 [.t 4] 0,oM 2 5 0])
 (.cut [2] [] .ret)) (.skip))
 (.cut [0] [] (.seq (.reg false [oM 6 0 0,oC 7 0 129 [.t 6] 0,oM 2 7 0])
 (.cut [2] [] .ret))))⟩
theorem ok102 : okFn Tryz.prog 3 Tryz.f102 a102 = true := by kernel_rfl
def a103 : AFn := ⟨1,37,[.t 2],
    .seq (.reg false [oB 1 71 0 0,oI 2 0 0])
 (.seq (.seq (.reg false [oF 3 0 1 0,oL 4 3 0,oY 5 .lss 4 0 0,oM 6 5 0,gf 6 (oF 7 0 1 0),gf 6 (oL 8 7 0),gf 6 (oY 9 .gtr 8 0 64),oP 10 6 9 0,oM 11 10 0,gf 11 (oF 12 3 1 0),gf 11 (oL 13 12 0),gf 11 (oY 14 .lss 13 0 0),oP 15 11 14 0,oM 16 15 0,gf 16 (oF 17 3 1 0),gf 16 (oL 18 17 0),gf 16 (oY 19 .gtr 18 0 3),oP 20 16 19 0,oM 21 20 0,gf 21 (oF 22 0 1 0),gf 21 (oL 23 22 0),gf 21 (oY 24 .lss 23 0 64),gf 21 (oM 25 24 0),gt 25 (oF 26 1 1 0),gt 25 (oL 27 26 0),gt 25 (oF 28 2 1 0),gt 25 (oL 29 28 0),gt 25 (oX 30 .or 27 29 0),gt 25 (oF 31 0 1 0),gt 25 (oL 32 31 0),gt 25 (oX 33 .shr 30 32 0),gt 25 ⟨some 34,none,.bin .neq (.t 33) (.k (.i .u64 0)),0⟩,gf 21 (oQ 35 25 34 0),oP 36 21 35 0])
 (.ite (.t 36) (.seq (.reg false [oI 2 0 130])
 (.cut [2] [] .ret)) (.skip)))
 (.cut [] [] (.seq (.reg false [oI 2 0 0])
 (.cut [2] [] .ret))))⟩
theorem ok103 : okFn Tryz.prog 3 Tryz.f103 a103 = true := by kernel_rfl
def a104 : AFn := ⟨2,14,[.t 4],
    .seq (.reg false [⟨some 4,none,.mv (.k (.c .f64 0 0)),0⟩])
 (.seq (.reg false [oM 5 1 0,oM 6 0 0,⟨some 7,none,.pop .re [.t 6],0⟩,⟨some 8,none,.call 0 (.t 5) [.t 7],0⟩,oM 9 1 0,oM 10 0 0,⟨some 11,none,.pop .im [.t 10],0⟩,⟨some 12,none,.call 0 (.t 9) [.t 11],0⟩,⟨some 13,none,.pop .mk [.t 8,.t 12],0⟩,oM 4 13 0])
 (.cut [4] [] .ret))⟩
theorem ok104 : okFn Tryz.prog 3 Tryz.f104 a104 = true := by kernel_rfl
def a105 : AFn := ⟨1,5,[.t 2],
    .seq (.reg false [⟨some 2,none,.mv (.k (.f .f64 0)),0⟩])
 (.seq (.reg false [oM 3 0 0,⟨some 4,none,.pop (.fbin .add) [.t 3,.k (.f .f64 0)],0⟩,oM 2 4 0])
 (.cut [2] [] .ret))⟩
theorem ok105 : okFn Tryz.prog 3 Tryz.f105 a105 = true := by kernel_rfl
def a106 : AFn := ⟨1,10,[.t 2],
    .seq (.reg false [⟨some 2,none,.mv (.k (.c .f64 0 0)),0⟩])
 (.seq (.reg false [oM 3 0 0,⟨some 4,none,.pop .re [.t 3],0⟩,⟨some 5,none,.pop .fneg [.t 4],0⟩,oM 6 0 0,⟨some 7,none,.pop .im [.t 6],0⟩,⟨some 8,none,.pop .fneg [.t 7],0⟩,⟨some 9,none,.pop .mk [.t 5,.t 8],0⟩,oM 2 9 0])
 (.cut [2] [] .ret))⟩
theorem ok106 : okFn Tryz.prog 3 Tryz.f106 a106 = true := by kernel_rfl
def a107 : AFn := ⟨2,11,[.t 4],
    .seq (.reg false [oI 4 0 0])
 (.seq (.reg false [oM 5 0 0,oM 6 1 0,⟨some 7,none,.conv .u64 (.t 6),0⟩,oX 8 .shr 5 7 0,⟨some 9,none,.bin .and (.t 8) (.k (.i .u64 1)),0⟩,⟨some 10,none,.conv .i64 (.t 9),0⟩,oM 4 10 0])
 (.cut [4] [] .ret))⟩
theorem ok107 : okFn Tryz.prog 3 Tryz.f107 a107 = true := by kernel_rfl
def a108L0 : AC := .cut [0,3] [] (.seq (.seq (.reg false [oM 4 3 0,oY 5 .leq 4 0 12])
 (.ite (.t 5) (.skip) (.cut [] [] (.exit 0))))
 (.cut [0,3] [] (.seq (.blk 1 (.seq (.reg false [oM 8 0 0,oM 9 3 0,⟨some 10,none,.conv .u64 (.t 9),0⟩,⟨some 11,none,.bin .shl (.k (.i .i64 1)) (.t 10),0⟩,oX 12 .eql 8 11 0])
 (.ite (.t 12) (.seq (.reg false [oM 13 3 0,oM 2 13 0])
 (.cut [2] [] .ret)) (.skip))))
 (.cut [0,3] [] (.reg false [oM 6 3 0,oY 7 .add 6 0 1,oM 3 7 0])))))
def a108 : AFn := ⟨1,14,[.t 2],
    .seq (.reg false [oI 2 0 0])
 (.seq (.seq (.reg false [oI 3 0 0])
 (.blk 0 (.loop a108L0)))
 (.cut [] [] (.seq (.reg false [oI 2 0 (-1)])
 (.cut [2] [] .ret))))⟩
theorem ok108 : okFn Tryz.prog 3 Tryz.f108 a108 = true := by kernel_rfl
def a109 : AFn := ⟨2,34,[.t 4],
    .seq (.reg false [oB 2 71 0 0,⟨some 4,none,.mv (.k (.i .u8 0)),0⟩])
 (.seq (.seq (.reg false [oJ 5 4 2 0,oC 6 0 76 [.t 5] 0,oN 7 6 0,oM 8 7 0,gf 8 (oM 9 1 0),gf 8 (oY 10 .lss 9 0 0),oP 11 8 10 0,oM 12 11 0,gf 12 (oM 13 1 0),gf 12 (oF 14 0 2 0),gf 12 (oL 15 14 0),gf 12 (oX 16 .geq 13 15 0),oP 17 12 16 0])
 (.ite (.t 17) (.seq (.reg false [⟨some 4,none,.mv (.k (.i .u8 0)),0⟩])
 (.cut [4] [] .ret)) (.skip)))
 (.cut [1,2] [2] (.seq (.seq (.reg true [oF 18 1 2 0,oL 19 18 1,oM 20 1 0,oC 21 0 107 [.t 19,.t 20] 7,⟨some 22,none,.bin .mul (.k (.i .i64 2)) (.t 21),15⟩,oF 23 2 2 0,oL 24 23 32,oM 25 1 0,oC 26 0 107 [.t 24,.t 25] 239,oX 27 .add 22 26 511])
 (.blk 0 (.seq (.reg false [oY 29 .eql 27 0 1,oM 28 29 0])
 (.ite (.t 28) (.seq (.reg false [⟨some 4,none,.mv (.k (.i .u8 90)),0⟩])
 (.cut [4] [] .ret)) (.seq (.reg false [oY 31 .eql 27 0 2,oM 30 31 0])
 (.ite (.t 30) (.seq (.reg false [⟨some 4,none,.mv (.k (.i .u8 88)),0⟩])
 (.cut [4] [] .ret)) (.seq (.reg false [oY 33 .eql 27 0 3,oM 32 33 0])
 (.ite (.t 32) (.seq (.reg false [⟨some 4,none,.mv (.k (.i .u8 89)),0⟩])
 (.cut [4] [] .ret)) (.skip)))))))))
 (.cut [] [] (.seq (.reg false [⟨some 4,none,.mv (.k (.i .u8 73)),0⟩])
 (.cut [4] [] .ret))))))⟩
theorem ok109 : okFn Tryz.prog 3 Tryz.f109 a109 = true := by kernel_rfl
def a110 : AFn := ⟨2,34,[.cell 4 (some 2)],
    .seq (.reg false [oB 2 83 0 0,⟨some 4,none,.alloc true 83 [.f .f64 0,.f .f64 0],0⟩])
 (.seq (.seq (.reg false [oM 5 1 0,⟨some 6,none,.conv .u64 (.t 5),0⟩,⟨some 7,none,.bin .rem (.t 6) (.k (.i .u64 4)),0⟩])
 (.blk 0 (.seq (.reg false [⟨some 9,none,.bin .eql (.t 7) (.k (.i .u64 1)),0⟩,oM 8 9 0])
 (.ite (.t 8) (.seq (.reg false [oF 10 1 2 0,oL 11 10 0,⟨some 12,none,.pop .fneg [.t 11],0⟩,oF 13 0 2 0,oL 14 13 0,⟨some 15,none,.build [.f .f64 0,.f .f64 0] [(0,1,.t 12),(1,1,.t 14)],0⟩,oS 2 4 15 0])
 (.cut [4] [4] .ret)) (.seq (.reg false [⟨some 17,none,.bin .eql (.t 7) (.k (.i .u64 2)),0⟩,oM 16 17 0])
 (.ite (.t 16) (.seq (.reg false [oF 18 0 2 0,oL 19 18 0,⟨some 20,none,.pop .fneg [.t 19],0⟩,oF 21 1 2 0,oL 22 21 0,⟨some 23,none,.pop .fneg [.t 22],0⟩,⟨some 24,none,.build [.f .f64 0,.f .f64 0] [(0,1,.t 20),(1,1,.t 23)],0⟩,oS 2 4 24 0])
 (.cut [4] [4] .ret)) (.seq (.reg false [⟨some 26,none,.bin .eql (.t 7) (.k (.i .u64 3)),0⟩,oM 25 26 0])
 (.ite (.t 25) (.seq (.reg false [oF 27 1 2 0,oL 28 27 0,oF 29 0 2 0,oL 30 29 0,⟨some 31,none,.pop .fneg [.t 30],0⟩,⟨some 32,none,.build [.f .f64 0,.f .f64 0] [(0,1,.t 28),(1,1,.t 31)],0⟩,oS 2 4 32 0])
 (.cut [4] [4] .ret)) (.skip)))))))))
 (.cut [2,4] [2,4] (.seq (.reg false [oJ 33 2 2 0,oS 2 4 33 0])
 (.cut [4] [4] .ret))))⟩
theorem ok110 : okFn Tryz.prog 3 Tryz.f110 a110 = true := by kernel_rfl
def a111 : AFn := ⟨1,8,[.t 2],
    .seq (.reg false [⟨some 2,none,.mv (.k (.i .u64 0)),0⟩])
 (.seq (.seq (.reg false [oM 3 0 0,oM 4 0 0,⟨some 5,none,.pop (.fcmp .neq) [.t 3,.t 4],0⟩])
 (.ite (.t 5) (.seq (.reg false [⟨some 2,none,.mv (.k (.i .u64 9221120237041090561)),0⟩])
 (.cut [2] [] .ret)) (.skip)))
 (.cut [0] [] (.seq (.reg false [oM 6 0 0,⟨some 7,none,.pop .fbits [.t 6],0⟩,oM 2 7 0])
 (.cut [2] [] .ret))))⟩
theorem ok111 : okFn Tryz.prog 3 Tryz.f111 a111 = true := by kernel_rfl
def a112L0 : AC := .cut [1,2,17,18,19] [] (.seq (.reg false [oX 20 .lss 19 18 0])
 (.seq (.ite (.t 20) (.skip) (.cut [] [] (.exit 0)))
 (.cut [1,2,17,18,19] [] (.seq (.blk 1 (.seq (.reg false [oM 21 19 0,oA 22 1 17 19 0,oL 23 22 0,oM 7 21 0,oM 8 23 0])
 (.seq (.reg false [oM 24 8 0,oY 25 .lss 24 0 0,oM 26 25 0,gf 26 (oM 27 8 0),gf 26 (oM 28 2 0),gf 26 (oX 29 .geq 27 28 0),oP 30 26 29 0,oM 31 30 0,gf 31 (oM 32 1 0),gf 31 (oM 33 7 0),gf 31 ⟨some 34,none,.slc 1 (.t 32) none (some (.t 33)) none,0⟩,gf 31 (oM 35 8 0),gf 31 (oC 36 0 113 [.t 34,.t 35] 0),oP 37 31 36 0])
 (.ite (.t 37) (.seq (.reg false [oI 6 0 61])
 (.cut [6] [] .ret)) (.skip)))))
 (.cut [1,2,17,18,19] [] (.reg false [oY 38 .add 19 0 1,oM 19 38 0]))))))
def a112 : AFn := ⟨3,39,[.t 6],
    .seq (.reg false [oI 6 0 0])
 (.seq (.seq (.reg false [oM 9 0 0,oC 10 0 131 [.t 9] 0,oY 11 .eql 10 0 0])
 (.ite (.t 11) (.seq (.reg false [oI 6 0 60])
 (.cut [6] [] .ret)) (.skip)))
 (.cut [0,1,2] [] (.seq (.seq (.reg false [oM 12 1 0,oG 13 12 0,oM 14 0 0,oC 15 0 131 [.t 14] 0,oX 16 .neq 13 15 0])
 (.ite (.t 16) (.seq (.reg false [oI 6 0 61])
 (.cut [6] [] .ret)) (.skip)))
 (.cut [1,2] [] (.seq (.seq (.reg false [oM 17 1 0,oG 18 17 0,oI 19 0 0])
 (.blk 0 (.loop a112L0)))
 (.cut [] [] (.seq (.reg false [oI 6 0 0])
 (.cut [6] [] .ret))))))))⟩
theorem ok112 : okFn Tryz.prog 3 Tryz.f112 a112 = true := by kernel_rfl
def a113 : AFn := ⟨2,9,[.t 4],
    .seq (.reg false [oU 4 0])
 (.seq (.reg false [oM 5 0 0,oM 6 1 0,oC 7 0 132 [.t 5,.t 6] 0,oY 8 .geq 7 0 0,oM 4 8 0])
 (.cut [4] [] .ret))⟩
theorem ok113 : okFn Tryz.prog 3 Tryz.f113 a113 = true := by kernel_rfl
def a114L0 : AC := .cut [0,1,7,8] [] (.seq (.reg false [oX 9 .lss 8 7 0])
 (.seq (.ite (.t 9) (.skip) (.cut [] [] (.exit 0)))
 (.cut [0,1,7,8] [] (.seq (.blk 1 (.seq (.reg false [oM 10 8 0,oM 5 10 0])
 (.seq (.reg false [oM 11 1 0,oM 12 0 0,oM 13 5 0,oA 14 6 12 13 0,oJ 15 6 14 0,⟨some 16,none,.call 0 (.t 11) [.t 15],0⟩])
 (.ite (.t 16) (.seq (.reg false [oM 17 5 0,oM 4 17 0])
 (.cut [4] [] .ret)) (.skip)))))
 (.cut [0,1,7,8] [] (.reg false [oY 18 .add 8 0 1,oM 8 18 0]))))))
def a114 : AFn := ⟨2,19,[.t 4],
    .seq (.reg false [oI 4 0 0])
 (.seq (.seq (.reg false [oM 6 0 0,oG 7 6 0,oI 8 0 0])
 (.blk 0 (.loop a114L0)))
 (.cut [] [] (.seq (.reg false [oI 4 0 (-1)])
 (.cut [4] [] .ret))))⟩
theorem ok114 : okFn Tryz.prog 3 Tryz.f114 a114 = true := by kernel_rfl
def a116 : AFn := ⟨1,12,[.cell 2 (some 3)],
    .seq (.reg false [oB 1 24 0 0,⟨some 2,none,.alloc true 24 [.i .i64 0,.sl none 0 (.ex 0),.sl none 0 (.ex 0)],0⟩])
 (.seq (.reg true [oF 3 0 1 0,oL 4 3 1,oF 5 1 1 0,oL 6 5 4,oC 7 1 91 [.t 6] 12,oF 8 2 1 0,oL 9 8 32,oC 10 1 91 [.t 9] 124,⟨some 11,none,.build [.i .i64 0,.sl none 0 (.ex 0),.sl none 0 (.ex 0)] [(0,1,.t 4),(1,1,.t 7),(2,1,.t 10)],255⟩,oS 3 2 11 511])
 (.cutg 3 [2] [2] .ret))⟩
theorem ok116 : okFn Tryz.prog 3 Tryz.f116 a116 = true := by kernel_rfl
def a117L0 : AC := .cut [0,1,2,6,7,8] [] (.seq (.reg false [oX 9 .lss 8 7 0])
 (.seq (.ite (.t 9) (.skip) (.cut [] [] (.exit 0)))
 (.cut [0,1,2,6,7,8] [] (.seq (.blk 1 (.seq (.reg false [oM 10 8 0,oA 11 4 6 8 0,oJ 12 4 11 0,⟨some 5,none,.alloc true 71 [.i .i64 0,.i .u64 0,.i .u64 0,.i .i64 0],0⟩,oM 4 10 0,oS 4 5 12 0])
 (.reg false [oM 14 0 0,oM 15 4 0,oJ 16 4 5 0,oL 17 1 0,oL 18 2 0,oC 19 0 118 [.t 16,.t 17,.t 18] 0,oM 13 19 0,oE 20 13 0 0,oE 21 13 1 0,oA 22 4 14 15 0,oS 4 22 20 0])))
 (.cut [0,1,2,6,7,8] [] (.reg false [oY 23 .add 8 0 1,oM 8 23 0]))))))
def a117 : AFn := ⟨3,24,[],
    .seq (.reg false [oM 6 0 0,oG 7 6 0,oI 8 0 0])
 (.blk 0 (.loop a117L0))⟩
theorem ok117 : okFn Tryz.prog 3 Tryz.f117 a117 = true := by kernel_rfl
def a118L0 : AC := .cut [1,2,3,6,8,33,34,35] [3,6,8] (.seq (.reg false [oX 36 .lss 35 34 0])
 (.seq (.ite (.t 36) (.skip) (.cut [1,2,3,6,8] [3,6,8] (.exit 0)))
 (.cut [1,2,3,6,8,33,34,35] [3,6,8] (.seq (.blk 1 (.seq (.reg false [oA 37 1 33 35 0,oL 38 37 0,oM 10 38 0])
 (.seq (.reg true [oF 39 1 8 0,oL 40 39 1,oM 41 10 0,⟨some 42,none,.bin .shl (.k (.i .u64 1)) (.t 41),4⟩,oX 43 .andNot 40 42 15,oF 44 1 8 31,oS 1 44 43 63])
 (.reg true [oF 45 2 8 0,oL 46 45 1,oM 47 10 0,⟨some 48,none,.bin .shl (.k (.i .u64 1)) (.t 47),4⟩,oX 49 .andNot 46 48 15,oF 50 2 8 31,oS 1 50 49 63]))))
 (.cut [1,2,3,6,8,33,34,35] [3,6,8] (.reg false [oY 51 .add 35 0 1,oM 35 51 0]))))))
def a118L1 : AC := .cut [2,3,6,8,11,54,55,56] [3,6,8] (.seq (.reg false [oX 57 .lss 56 55 0])
 (.seq (.ite (.t 57) (.skip) (.cut [6,8] [6,8] (.exit 2)))
 (.cut [2,3,6,8,11,54,55,56] [3,6,8] (.seq (.blk 3 (.seq (.reg false [oM 58 56 0,oA 59 1 54 56 0,oL 60 59 0,oM 12 58 0,oM 13 60 0])
 (.seq (.reg false [oJ 61 4 3 0,oM 62 13 0,oC 63 0 135 [.t 61,.t 62] 0,oM 14 63 0])
 (.seq (.seq (.reg false [oM 64 14 0,oY 65 .eql 64 0 2])
 (.ite (.t 65) (.reg false [oF 66 3 8 0,oL 67 66 0,oY 68 .add 67 0 1,oY 69 .rem 68 0 4,oF 70 3 8 0,oS 1 70 69 0]) (.skip)))
 (.cut [2,3,6,8,11,12,14,54,55,56] [3,6,8] (.seq (.seq (.reg false [oM 71 14 0,oY 72 .eql 71 0 1,oM 73 72 0,gf 73 (oM 74 14 0),gf 73 (oY 75 .eql 74 0 2),oP 76 73 75 0])
 (.ite (.t 76) (.reg true [oJ 77 4 8 0,oM 78 11 0,oM 79 12 0,⟨some 80,none,.bin .mul (.k (.i .i64 2)) (.t 79),4⟩,oA 81 1 78 80 14,oL 82 81 30,oF 83 0 3 0,oL 84 83 64,oM 85 2 0,oC 86 0 137 [.t 82,.t 84,.t 85] 510,oC 87 0 136 [.t 77,.t 86] 1023,oS 4 8 87 2047]) (.skip)))
 (.cut [2,3,6,8,11,12,14,54,55,56] [3,6,8] (.seq (.reg false [oM 88 14 0,oY 89 .geq 88 0 2])
 (.ite (.t 89) (.reg true [oJ 90 4 8 0,oM 91 11 0,oM 92 12 0,⟨some 93,none,.bin .mul (.k (.i .i64 2)) (.t 92),4⟩,oY 94 .add 93 12 1,oA 95 1 91 94 30,oL 96 95 62,oF 97 0 3 0,oL 98 97 128,oM 99 2 0,oC 100 0 137 [.t 96,.t 98,.t 99] 1022,oC 101 0 136 [.t 90,.t 100] 2047,oS 4 8 101 4095]) (.skip))))))))))
 (.cut [2,3,6,8,11,54,55,56] [3,6,8] (.reg false [oY 102 .add 56 0 1,oM 56 102 0]))))))
def a118 : AFn := ⟨3,104,[.cell 6 (some 4),.t 7],
    .seq (.reg false [oB 3 71 0 0,⟨some 6,none,.alloc true 71 [.i .i64 0,.i .u64 0,.i .u64 0,.i .i64 0],0⟩,oI 7 0 0])
 (.seq (.seq (.reg false [oJ 15 4 3 0,oC 16 0 71 [.t 15] 0,oN 17 16 0,oM 18 17 0,gf 18 (oM 19 1 0),gf 18 (oC 20 0 86 [.t 19] 0),gf 18 (oN 21 20 0),oP 22 18 21 0,oM 23 22 0,gf 23 (oM 24 1 0),gf 23 (oM 25 2 0),gf 23 (oF 26 0 3 0),gf 23 (oL 27 26 0),gf 23 (oC 28 0 112 [.t 24,.t 25,.t 27] 0),gf 23 (oY 29 .neq 28 0 0),oP 30 23 29 0])
 (.ite (.t 30) (.seq (.reg false [⟨some 31,none,.build [.i .i64 0,.i .u64 0,.i .u64 0,.i .i64 0] [],0⟩,oS 4 6 31 0,oI 7 0 130])
 (.cut [6,7] [6] .ret)) (.skip)))
 (.cut [1,2,3,6] [3,6] (.seq (.reg false [oJ 32 4 3 0,⟨some 8,none,.alloc true 71 [.i .i64 0,.i .u64 0,.i .u64 0,.i .i64 0],0⟩,oS 4 8 32 0])
 (.seq (.seq (.reg false [oM 33 2 0,oG 34 33 0,oI 35 0 0])
 (.blk 0 (.loop a118L0)))
 (.cut [1,2,3,6,8] [3,6,8] (.seq (.reg false [oM 52 1 0,oC 53 0 134 [.t 52] 0,oM 11 53 0])
 (.seq (.seq (.reg false [oM 54 2 0,oG 55 54 0,oI 56 0 0])
 (.blk 2 (.loop a118L1)))
 (.cut [6,8] [6,8] (.seq (.reg false [oJ 103 4 8 0,oS 4 6 103 0,oI 7 0 0])
 (.cut [6,7] [6] .ret))))))))))⟩
theorem ok118 : okFn Tryz.prog 3 Tryz.f118 a118 = true := by kernel_rfl
def a119 : AFn := ⟨2,26,[.t 4,.t 5],
    .seq (.reg false [oB 2 24 0 0,oI 4 0 0,oI 5 0 0])
 (.seq (.seq (.reg false [oJ 7 3 2 0,oM 8 1 0,oC 9 0 138 [.t 7,.t 8] 0,oM 6 9 0])
 (.seq (.reg false [oM 10 6 0,oY 11 .neq 10 0 0])
 (.ite (.t 11) (.seq (.reg false [oM 12 6 0,oI 4 0 0,oM 5 12 0])
 (.cut [4,5] [] .ret)) (.skip))))
 (.cut [1,2] [2] (.seq (.seq (.reg false [oJ 13 3 2 0,oM 14 1 0,oC 15 0 122 [.t 13,.t 14] 0,oY 16 .geq 15 0 0])
 (.ite (.t 16) (.seq (.reg false [oI 4 0 2,oI 5 0 0])
 (.cut [4,5] [] .ret)) (.skip)))
 (.cut [1,2] [2] (.seq (.reg true [oJ 17 3 2 0,oF 18 0 2 0,oL 19 18 2,oM 20 1 0,⟨some 21,none,.bin .shl (.k (.i .u64 1)) (.t 20),8⟩,⟨some 22,none,.build [.i .i64 0,.i .u64 0,.i .u64 0,.i .i64 0] [(0,1,.t 19),(2,1,.t 21)],30⟩,oC 23 0 139 [.t 17,.t 22] 63,⟨some 24,none,.fld 3 none (.t 23),127⟩,oY 25 .quo 24 255 2,oM 4 25 511,oI 5 1023 0])
 (.cut [4,5] [] .ret))))))⟩
theorem ok119 : okFn Tryz.prog 3 Tryz.f119 a119 = true := by kernel_rfl
def a120 : AFn := ⟨3,52,[.t 6,.t 7],
    .seq (.reg false [oI 6 0 0,oI 7 0 0])
 (.seq (.reg false [oM 9 0 0,oM 10 1 0,⟨some 11,none,.pop (.fbin .add) [.t 9,.t 10],0⟩,oM 8 11 0])
 (.seq (.blk 0 (.seq (.reg false [oM 13 0 0,oC 14 0 140 [.t 13] 0,oN 15 14 0,oM 16 15 0,gf 16 (oM 17 1 0),gf 16 (oC 18 0 140 [.t 17] 0),gf 16 (oN 19 18 0),oP 20 16 19 0,oM 21 20 0,gf 21 (oM 22 8 0),gf 21 (oC 23 0 140 [.t 22] 0),gf 21 (oN 24 23 0),oP 25 21 24 0,oM 26 25 0,gf 26 (oM 27 8 0),gf 26 ⟨some 28,none,.pop (.fcmp .eql) [.t 27,.k (.f .f64 0)],0⟩,oP 29 26 28 0,oM 30 29 0,gf 30 (oM 31 2 0),gf 30 ⟨some 32,none,.pop (.fcmp .geq) [.t 31,.k (.f .f64 0)],0⟩,gf 30 (oM 33 32 0),gt 33 (oM 34 2 0),gt 33 ⟨some 35,none,.pop (.fcmp .lss) [.t 34,.k (.f .f64 4607182418800017408)],0⟩,gf 30 (oQ 36 33 35 0),gf 30 (oN 37 36 0),oP 38 30 37 0,oM 12 38 0])
 (.ite (.t 12) (.seq (.reg false [oI 6 0 0,oI 7 0 110])
 (.cut [6,7] [] .ret)) (.seq (.reg false [oM 40 1 0,⟨some 41,none,.pop (.fcmp .eql) [.t 40,.k (.f .f64 0)],0⟩,oM 39 41 0])
 (.ite (.t 39) (.seq (.reg false [oI 6 0 0,oI 7 0 0])
 (.cut [6,7] [] .ret)) (.seq (.reg false [oM 43 0 0,⟨some 44,none,.pop (.fcmp .eql) [.t 43,.k (.f .f64 0)],0⟩,oM 45 44 0,gf 45 (oM 46 2 0),gf 45 (oM 47 8 0),gf 45 ⟨some 48,none,.pop (.fbin .mul) [.t 46,.t 47],0⟩,gf 45 (oM 49 1 0),gf 45 ⟨some 50,none,.pop (.fcmp .lss) [.t 48,.t 49],0⟩,oP 51 45 50 0,oM 42 51 0])
 (.ite (.t 42) (.seq (.reg false [oI 6 0 1,oI 7 0 0])
 (.cut [6,7] [] .ret)) (.skip))))))))
 (.cut [] [] (.seq (.reg false [oI 6 0 0,oI 7 0 0])
 (.cut [6,7] [] .ret)))))⟩
theorem ok120 : okFn Tryz.prog 3 Tryz.f120 a120 = true := by kernel_rfl
def a121 : AFn := ⟨3,35,[.cell 6 (some 3)],
    .seq (.reg false [⟨some 3,none,.box false 24 (.t 0),0⟩,⟨some 4,none,.box false 3 (.t 1),0⟩,⟨some 5,none,.box false 71 (.t 2),0⟩,⟨some 6,none,.alloc true 24 [.i .i64 0,.sl none 0 (.ex 0),.sl none 0 (.ex 0)],0⟩])
 (.seq (.reg false [oJ 9 3 3 0,oC 10 1 116 [.t 9] 0,⟨some 7,none,.alloc true 24 [.i .i64 0,.sl none 0 (.ex 0),.sl none 0 (.ex 0)],0⟩,oS 3 7 10 0])
 (.seq (.reg false [⟨some 11,none,.mkf (.func 141) [] [.t 4,.t 5,.t 3],0⟩,oM 8 11 0])
 (.seq (.reg false [oM 12 8 0,oF 13 1 7 0,oL 14 13 0,⟨some 15,none,.call 2 (.t 12) [.t 14],0⟩])
 (.seq (.reg false [oM 16 8 0,oF 17 2 7 0,oL 18 17 0,⟨some 19,none,.call 2 (.t 16) [.t 18],0⟩])
 (.seq (.reg true [oF 20 2 7 0,oL 21 20 1,oL 22 4 0,oF 23 1 7 0,oL 24 23 8,oL 25 4 0,oF 26 1 3 0,oL 27 26 64,oL 28 4 0,oA 29 4 27 28 448,oJ 30 4 29 960,oJ 31 4 5 0,oA 32 4 21 22 1991,oS 4 32 30 6087,oA 33 4 24 25 16383,oS 4 33 31 32767])
 (.seq (.reg false [oJ 34 3 7 0,oS 3 6 34 0])
 (.cutg 3 [6] [6] .ret)))))))⟩
theorem ok121 : okFn Tryz.prog 3 Tryz.f121 a121 = true := by kernel_rfl
def a122 : AFn := ⟨2,9,[.t 4],
    .seq (.reg false [oB 2 24 0 0,⟨some 3,none,.box false 3 (.t 1),0⟩,oI 4 0 0])
 (.seq (.reg false [oF 5 1 2 0,oL 6 5 0,⟨some 7,none,.mkf (.func 144) [] [.t 3],0⟩,oC 8 0 143 [.t 6,.t 7] 0,oM 4 8 0])
 (.cutg 3 [4] [] .ret))⟩
theorem ok122 : okFn Tryz.prog 3 Tryz.f122 a122 = true := by kernel_rfl
def a128 : AFn := ⟨1,19,[.t 2],
    .seq (.reg false [oI 2 0 0])
 (.seq (.seq (.reg false [oM 3 0 0,⟨some 4,none,.bin .geq (.t 3) (.k (.i .u32 65536)),0⟩])
 (.ite (.t 4) (.seq (.reg false [oM 5 0 0,⟨some 6,none,.bin .shr (.t 5) (.k (.i .u64 16)),0⟩,oM 0 6 0])
 (.reg false [oI 2 0 16])) (.skip)))
 (.cut [0,2] [] (.seq (.seq (.reg false [oM 7 0 0,⟨some 8,none,.bin .geq (.t 7) (.k (.i .u32 256)),0⟩])
 (.ite (.t 8) (.seq (.reg false [oM 9 0 0,⟨some 10,none,.bin .shr (.t 9) (.k (.i .u64 8)),0⟩,oM 0 10 0])
 (.reg false [oM 11 2 0,oY 12 .add 11 0 8,oM 2 12 0])) (.skip)))
 (.cut [0,2] [] (.seq (.reg false [oM 13 2 0,oM 14 0 0,⟨some 15,none,.conv .u8 (.t 14),0⟩,⟨some 16,none,.idxs (.k (.s ⟨#[0,1,2,2,3,3,3,3,4,4,4,4,4,4,4,4,5,5,5,5,5,5,5,5,5,5,5,5,5,5,5,5,6,6,6,6,6,6,6,6,6,6,6,6,6,6,6,6,6,6,6,6,6,6,6,6,6,6,6,6,6,6,6,6,7,7,7,7,7,7,7,7,7,7,7,7,7,7,7,7,7,7,7,7,7,7,7,7,7,7,7,7,7,7,7,7,7,7,7,7,7,7,7,7,7,7,7,7,7,7,7,7,7,7,7,7,7,7,7,7,7,7,7,7,7,7,7,7,8,8,8,8,8,8,8,8,8,8,8,8,8,8,8,8,8,8,8,8,8,8,8,8,8,8,8,8,8,8,8,8,8,8,8,8,8,8,8,8,8,8,8,8,8,8,8,8,8,8,8,8,8,8,8,8,8,8,8,8,8,8,8,8,8,8,8,8,8,8,8,8,8,8,8,8,8,8,8,8,8,8,8,8,8,8,8,8,8,8,8,8,8,8,8,8,8,8,8,8,8,8,8,8,8,8,8,8,8,8,8,8,8,8,8,8,8,8,8,8,8,8,8,8,8,8,8,8]⟩)) (.t 15),0⟩,⟨some 17,none,.conv .i64 (.t 16),0⟩,oX 18 .add 13 17 0,oM 2 18 0])
 (.cut [2] [] .ret))))))⟩
theorem ok128 : okFn Tryz.prog 3 Tryz.f128 a128 = true := by kernel_rfl
def a129 : AFn := ⟨1,25,[.t 2],
    .seq (.reg false [oI 2 0 0])
 (.seq (.seq (.reg false [oM 3 0 0,⟨some 4,none,.bin .geq (.t 3) (.k (.i .u64 4294967296)),0⟩])
 (.ite (.t 4) (.seq (.reg false [oM 5 0 0,⟨some 6,none,.bin .shr (.t 5) (.k (.i .u64 32)),0⟩,oM 0 6 0])
 (.reg false [oI 2 0 32])) (.skip)))
 (.cut [0,2] [] (.seq (.seq (.reg false [oM 7 0 0,⟨some 8,none,.bin .geq (.t 7) (.k (.i .u64 65536)),0⟩])
 (.ite (.t 8) (.seq (.reg false [oM 9 0 0,⟨some 10,none,.bin .shr (.t 9) (.k (.i .u64 16)),0⟩,oM 0 10 0])
 (.reg false [oM 11 2 0,oY 12 .add 11 0 16,oM 2 12 0])) (.skip)))
 (.cut [0,2] [] (.seq (.seq (.reg false [oM 13 0 0,⟨some 14,none,.bin .geq (.t 13) (.k (.i .u64 256)),0⟩])
 (.ite (.t 14) (.seq (.reg false [oM 15 0 0,⟨some 16,none,.bin .shr (.t 15) (.k (.i .u64 8)),0⟩,oM 0 16 0])
 (.reg false [oM 17 2 0,oY 18 .add 17 0 8,oM 2 18 0])) (.skip)))
 (.cut [0,2] [] (.seq (.reg false [oM 19 2 0,oM 20 0 0,⟨some 21,none,.conv .u8 (.t 20),0⟩,⟨some 22,none,.idxs (.k (.s ⟨#[0,1,2,2,3,3,3,3,4,4,4,4,4,4,4,4,5,5,5,5,5,5,5,5,5,5,5,5,5,5,5,5,6,6,6,6,6,6,6,6,6,6,6,6,6,6,6,6,6,6,6,6,6,6,6,6,6,6,6,6,6,6,6,6,7,7,7,7,7,7,7,7,7,7,7,7,7,7,7,7,7,7,7,7,7,7,7,7,7,7,7,7,7,7,7,7,7,7,7,7,7,7,7,7,7,7,7,7,7,7,7,7,7,7,7,7,7,7,7,7,7,7,7,7,7,7,7,7,8,8,8,8,8,8,8,8,8,8,8,8,8,8,8,8,8,8,8,8,8,8,8,8,8,8,8,8,8,8,8,8,8,8,8,8,8,8,8,8,8,8,8,8,8,8,8,8,8,8,8,8,8,8,8,8,8,8,8,8,8,8,8,8,8,8,8,8,8,8,8,8,8,8,8,8,8,8,8,8,8,8,8,8,8,8,8,8,8,8,8,8,8,8,8,8,8,8,8,8,8,8,8,8,8,8,8,8,8,8,8,8,8,8,8,8,8,8,8,8,8,8,8,8,8,8,8,8]⟩)) (.t 21),0⟩,⟨some 23,none,.conv .i64 (.t 22),0⟩,oX 24 .add 19 23 0,oM 2 24 0])
 (.cut [2] [] .ret))))))))⟩
theorem ok129 : okFn Tryz.prog 3 Tryz.f129 a129 = true := by kernel_rfl
def a131 : AFn := ⟨1,6,[.t 2],
    .seq (.reg false [oI 2 0 0])
 (.seq (.reg false [oM 3 0 0,oC 4 0 146 [.t 3] 0,⟨some 5,none,.fld 1 none (.t 4),0⟩,oM 2 5 0])
 (.cut [2] [] .ret))⟩
theorem ok131 : okFn Tryz.prog 3 Tryz.f131 a131 = true := by kernel_rfl
def a132L0 : AC := .cut [0,1,7,8] [] (.seq (.reg false [oX 9 .lss 8 7 0])
 (.seq (.ite (.t 9) (.skip) (.cut [] [] (.exit 0)))
 (.cut [0,1,7,8] [] (.seq (.blk 1 (.seq (.reg false [oM 10 8 0,oM 5 10 0])
 (.seq (.reg false [oM 11 1 0,oM 12 0 0,oM 13 5 0,oA 14 1 12 13 0,oL 15 14 0,oX 16 .eql 11 15 0])
 (.ite (.t 16) (.seq (.reg false [oM 17 5 0,oM 4 17 0])
 (.cut [4] [] .ret)) (.skip)))))
 (.cut [0,1,7,8] [] (.reg false [oY 18 .add 8 0 1,oM 8 18 0]))))))
def a132 : AFn := ⟨2,19,[.t 4],
    .seq (.reg false [oI 4 0 0])
 (.seq (.seq (.reg false [oM 6 0 0,oG 7 6 0,oI 8 0 0])
 (.blk 0 (.loop a132L0)))
 (.cut [] [] (.seq (.reg false [oI 4 0 (-1)])
 (.cut [4] [] .ret))))⟩
theorem ok132 : okFn Tryz.prog 3 Tryz.f132 a132 = true := by kernel_rfl
def a134 : AFn := ⟨1,25,[.t 2],
    .seq (.reg false [⟨some 2,none,.mv (.k (.sl none 0 (.ex 0))),0⟩])
 (.seq (.reg false [⟨some 4,none,.bslice 9 1 2 [.s ⟨#[]⟩,.s ⟨#[]⟩] [(0,1,.k (.s ⟨#[43,88]⟩)),(1,1,.k (.s ⟨#[43,90]⟩))],0⟩,⟨some 5,none,.bslice 9 1 2 [.s ⟨#[]⟩,.s ⟨#[]⟩] [(0,1,.k (.s ⟨#[43,88]⟩)),(1,1,.k (.s ⟨#[45,90]⟩))],0⟩,⟨some 6,none,.bslice 9 1 2 [.s ⟨#[]⟩,.s ⟨#[]⟩] [(0,1,.k (.s ⟨#[45,88]⟩)),(1,1,.k (.s ⟨#[45,90]⟩))],0⟩,⟨some 7,none,.bslice 9 1 2 [.s ⟨#[]⟩,.s ⟨#[]⟩] [(0,1,.k (.s ⟨#[45,88]⟩)),(1,1,.k (.s ⟨#[43,90]⟩))],0⟩,⟨some 8,none,.bslice 9 1 2 [.s ⟨#[]⟩,.s ⟨#[]⟩] [(0,1,.k (.s ⟨#[43,89]⟩)),(1,1,.k (.s ⟨#[43,90]⟩))],0⟩,⟨some 9,none,.bslice 9 1 2 [.s ⟨#[]⟩,.s ⟨#[]⟩] [(0,1,.k (.s ⟨#[45,89]⟩)),(1,1,.k (.s ⟨#[43,90]⟩))],0⟩,⟨some 10,none,.bslice 9 1 2 [.s ⟨#[]⟩,.s ⟨#[]⟩] [(0,1,.k (.s ⟨#[43,88]⟩)),(1,1,.k (.s ⟨#[45,89]⟩))],0⟩,⟨some 11,none,.bslice 9 1 2 [.s ⟨#[]⟩,.s ⟨#[]⟩] [(0,1,.k (.s ⟨#[43,88]⟩)),(1,1,.k (.s ⟨#[43,89]⟩))],0⟩,⟨some 12,none,.bslice 9 1 2 [.s ⟨#[]⟩,.s ⟨#[]⟩] [(0,1,.k (.s ⟨#[45,90]⟩)),(1,1,.k (.s ⟨#[43,88]⟩))],0⟩,⟨some 13,none,.bslice 9 1 2 [.s ⟨#[]⟩,.s ⟨#[]⟩] [(0,1,.k (.s ⟨#[43,90]⟩)),(1,1,.k (.s ⟨#[45,88]⟩))],0⟩,⟨some 14,none,.bslice 9 1 4 [.s ⟨#[]⟩,.s ⟨#[]⟩,.s ⟨#[]⟩,.s ⟨#[]⟩] [(0,1,.k (.s ⟨#[43,88,88]⟩)),(1,1,.k (.s ⟨#[43,90,73]⟩)),(2,1,.k (.s ⟨#[43,73,88]⟩)),(3,1,.k (.s ⟨#[43,90,90]⟩))],0⟩,⟨some 15,none,.bslice 9 1 4 [.s ⟨#[]⟩,.s ⟨#[]⟩,.s ⟨#[]⟩,.s ⟨#[]⟩] [(0,1,.k (.s ⟨#[43,88,89]⟩)),(1,1,.k (.s ⟨#[43,90,73]⟩)),(2,1,.k (.s ⟨#[43,90,88]⟩)),(3,1,.k (.s ⟨#[43,90,90]⟩))],0⟩,⟨some 16,none,.bslice 9 1 4 [.s ⟨#[]⟩,.s ⟨#[]⟩,.s ⟨#[]⟩,.s ⟨#[]⟩] [(0,1,.k (.s ⟨#[43,88,90]⟩)),(1,1,.k (.s ⟨#[43,90,73]⟩)),(2,1,.k (.s ⟨#[43,90,88]⟩)),(3,1,.k (.s ⟨#[43,73,90]⟩))],0⟩,⟨some 17,none,.bslice 9 1 4 [.s ⟨#[]⟩,.s ⟨#[]⟩,.s ⟨#[]⟩,.s ⟨#[]⟩] [(0,1,.k (.s ⟨#[43,73,88]⟩)),(1,1,.k (.s ⟨#[43,73,90]⟩)),(2,1,.k (.s ⟨#[43,88,73]⟩)),(3,1,.k (.s ⟨#[43,90,73]⟩))],0⟩,⟨some 18,none,.bslice 9 1 4 [.s ⟨#[]⟩,.s ⟨#[]⟩,.s ⟨#[]⟩,.s ⟨#[]⟩] [(0,1,.k (.s ⟨#[43,90,89]⟩)),(1,1,.k (.s ⟨#[43,73,90]⟩)),(2,1,.k (.s ⟨#[43,89,90]⟩)),(3,1,.k (.s ⟨#[43,90,73]⟩))],0⟩,⟨some 19,none,.bslice 9 1 4 [.s ⟨#[]⟩,.s ⟨#[]⟩,.s ⟨#[]⟩,.s ⟨#[]⟩] [(0,1,.k (.s ⟨#[45,90,89]⟩)),(1,1,.k (.s ⟨#[43,73,90]⟩)),(2,1,.k (.s ⟨#[45,89,90]⟩)),(3,1,.k (.s ⟨#[43,90,73]⟩))],0⟩,⟨some 20,none,.bslice 9 1 4 [.s ⟨#[]⟩,.s ⟨#[]⟩,.s ⟨#[]⟩,.s ⟨#[]⟩] [(0,1,.k (.s ⟨#[43,90,73]⟩)),(1,1,.k (.s ⟨#[43,88,73]⟩)),(2,1,.k (.s ⟨#[43,73,90]⟩)),(3,1,.k (.s ⟨#[43,73,88]⟩))],0⟩,⟨some 21,none,.build [.sl none 0 (.ex 0),.sl none 0 (.ex 0),.sl none 0 (.ex 0),.sl none 0 (.ex 0),.sl none 0 (.ex 0),.sl none 0 (.ex 0),.sl none 0 (.ex 0),.sl none 0 (.ex 0),.sl none 0 (.ex 0),.sl none 0 (.ex 0),.sl none 0 (.ex 0),.sl none 0 (.ex 0),.sl none 0 (.ex 0),.sl none 0 (.ex 0),.sl none 0 (.ex 0),.sl none 0 (.ex 0),.sl none 0 (.ex 0),.sl none 0 (.ex 0)] [(1,1,.t 4),(2,1,.t 5),(3,1,.t 6),(4,1,.t 7),(5,1,.t 8),(6,1,.t 9),(7,1,.t 10),(8,1,.t 11),(9,1,.t 12),(10,1,.t 13),(11,1,.t 14),(12,1,.t 15),(13,1,.t 16),(14,1,.t 17),(15,1,.t 18),(16,1,.t 19),(17,1,.t 20)],0⟩,⟨some 3,none,.alloc true 187 [.sl none 0 (.ex 0),.sl none 0 (.ex 0),.sl none 0 (.ex 0),.sl none 0 (.ex 0),.sl none 0 (.ex 0),.sl none 0 (.ex 0),.sl none 0 (.ex 0),.sl none 0 (.ex 0),.sl none 0 (.ex 0),.sl none 0 (.ex 0),.sl none 0 (.ex 0),.sl none 0 (.ex 0),.sl none 0 (.ex 0),.sl none 0 (.ex 0),.sl none 0 (.ex 0),.sl none 0 (.ex 0),.sl none 0 (.ex 0),.sl none 0 (.ex 0)],0⟩,oS 18 3 21 0])
 (.seq (.reg false [oM 22 0 0,⟨some 23,none,.iadra 1 18 (.t 3) (.t 22),0⟩,oL 24 23 0,oM 2 24 0])
 (.cutg 3 [2] [] .ret)))⟩
theorem ok134 : okFn Tryz.prog 3 Tryz.f134 a134 = true := by kernel_rfl
def a135 : AFn := ⟨2,23,[.t 4],
    .seq (.reg false [oB 2 71 0 0,oI 4 0 0])
 (.seq (.reg true [oF 7 1 2 0,oL 8 7 1,oM 9 1 0,oX 10 .shr 8 9 7,⟨some 11,none,.bin .and (.t 10) (.k (.i .u64 1)),15⟩,⟨some 12,none,.conv .i64 (.t 11),31⟩,oF 13 2 2 0,oL 14 13 64,oM 15 1 0,oX 16 .shr 14 15 448,⟨some 17,none,.bin .and (.t 16) (.k (.i .u64 1)),960⟩,⟨some 18,none,.conv .i64 (.t 17),1984⟩,oM 5 12 63,oM 6 18 8191])
 (.seq (.reg false [oM 19 5 0,oM 20 6 0,⟨some 21,none,.bin .mul (.k (.i .i64 3)) (.t 20),0⟩,oX 22 .xor 19 21 0,oM 4 22 0])
 (.cut [4] [] .ret)))⟩
theorem ok135 : okFn Tryz.prog 3 Tryz.f135 a135 = true := by kernel_rfl
def a136L0 : AC := .cut [2,3,4,5,6] [2,3,4] (.seq (.seq (.reg false [oM 24 6 0,⟨some 25,none,.bin .neq (.t 24) (.k (.i .u64 0)),0⟩])
 (.ite (.t 25) (.skip) (.cut [2,3,4,5] [2,3,4] (.exit 0))))
 (.cut [2,3,4,5,6] [2,3,4] (.seq (.blk 1 (.seq (.reg false [oM 30 6 0,oC 31 0 147 [.t 30] 0,oM 7 31 0])
 (.seq (.reg true [oJ 32 4 3 0,oM 33 7 0,oC 34 0 135 [.t 32,.t 33] 3,oJ 35 4 2 0,oM 36 7 0,oC 37 0 135 [.t 35,.t 36] 31,oX 38 .sub 34 37 63,oY 39 .add 38 127 3,oY 40 .rem 39 255 3])
 (.blk 2 (.seq (.reg false [oY 42 .eql 40 0 1,oM 41 42 0])
 (.ite (.t 41) (.reg false [oM 43 5 0,oY 44 .add 43 0 1,oM 5 44 0]) (.seq (.reg false [oY 46 .eql 40 0 2,oM 45 46 0])
 (.ite (.t 45) (.reg false [oM 47 5 0,oY 48 .add 47 0 3,oM 5 48 0]) (.skip)))))))))
 (.cut [2,3,4,5,6] [2,3,4] (.reg false [oM 26 6 0,oM 27 6 0,⟨some 28,none,.bin .sub (.t 27) (.k (.i .u64 1)),0⟩,oX 29 .and 26 28 0,oM 6 29 0])))))
def a136 : AFn := ⟨2,64,[.cell 4 (some 4)],
    .seq (.reg false [oB 2 71 0 0,oB 3 71 1 0,⟨some 4,none,.alloc true 71 [.i .i64 0,.i .u64 0,.i .u64 0,.i .i64 0],0⟩])
 (.seq (.reg false [oF 8 3 2 0,oL 9 8 0,oF 10 3 3 0,oL 11 10 0,oX 12 .add 9 11 0,oM 5 12 0])
 (.seq (.seq (.reg false [oF 13 1 2 0,oL 14 13 0,oF 15 2 2 0,oL 16 15 0,oX 17 .or 14 16 0,oF 18 1 3 0,oL 19 18 0,oF 20 2 3 0,oL 21 20 0,oX 22 .or 19 21 0,oX 23 .and 17 22 0,oM 6 23 0])
 (.blk 0 (.loop a136L0)))
 (.cut [2,3,4,5] [2,3,4] (.seq (.reg false [oF 49 0 2 0,oL 50 49 0,oF 51 1 2 0,oL 52 51 0,oF 53 1 3 0,oL 54 53 0,oX 55 .xor 52 54 0,oF 56 2 2 0,oL 57 56 0,oF 58 2 3 0,oL 59 58 0,oX 60 .xor 57 59 0,oM 61 5 0,oY 62 .rem 61 0 4,⟨some 63,none,.build [.i .i64 0,.i .u64 0,.i .u64 0,.i .i64 0] [(0,1,.t 50),(1,1,.t 55),(2,1,.t 60),(3,1,.t 62)],0⟩,oS 4 4 63 0])
 (.cut [4] [4] .ret)))))⟩
theorem ok136 : okFn Tryz.prog 3 Tryz.f136 a136 = true := by kernel_rfl
def a137L0 : AC := .cut [0,6,7,17,18,19] [6,7] (.seq (.reg false [oX 20 .lss 19 18 0])
 (.seq (.ite (.t 20) (.skip) (.cut [6,7] [6,7] (.exit 0)))
 (.cut [0,6,7,17,18,19] [6,7] (.seq (.blk 1 (.seq (.reg false [oM 21 19 0,oA 22 1 17 19 0,oL 23 22 0,oM 8 21 0,oM 9 23 0])
 (.seq (.reg false [oM 24 0 0,oM 25 8 0,oY 26 .add 25 0 1,⟨some 27,none,.idxs (.t 24) (.t 26),0⟩,⟨some 28,none,.call 0 (.k (.fn (.func 148) [] [])) [.k (.s ⟨#[73,88,89,90]⟩),.t 27],0⟩,oM 10 28 0])
 (.seq (.seq (.reg false [oM 29 10 0,oY 30 .eql 29 0 1,oM 31 30 0,gf 31 (oM 32 10 0),gf 31 (oY 33 .eql 32 0 2),oP 34 31 33 0])
 (.ite (.t 34) (.reg true [oF 35 1 7 0,oL 36 35 1,oM 37 9 0,⟨some 38,none,.bin .shl (.k (.i .u64 1)) (.t 37),4⟩,oX 39 .or 36 38 15,oF 40 1 7 31,oS 1 40 39 63]) (.skip)))
 (.cut [0,6,7,9,10,17,18,19] [6,7] (.seq (.reg false [oM 41 10 0,oY 42 .geq 41 0 2])
 (.ite (.t 42) (.reg true [oF 43 2 7 0,oL 44 43 1,oM 45 9 0,⟨some 46,none,.bin .shl (.k (.i .u64 1)) (.t 45),4⟩,oX 47 .or 44 46 15,oF 48 2 7 31,oS 1 48 47 63]) (.skip))))))))
 (.cut [0,6,7,17,18,19] [6,7] (.reg false [oY 49 .add 19 0 1,oM 19 49 0]))))))
def a137 : AFn := ⟨3,51,[.cell 6 (some 4)],
    .seq (.reg false [⟨some 6,none,.alloc true 71 [.i .i64 0,.i .u64 0,.i .u64 0,.i .i64 0],0⟩])
 (.seq (.reg false [oM 11 1 0,⟨some 12,none,.build [.i .i64 0,.i .u64 0,.i .u64 0,.i .i64 0] [(0,1,.t 11)],0⟩,⟨some 7,none,.alloc true 71 [.i .i64 0,.i .u64 0,.i .u64 0,.i .i64 0],0⟩,oS 4 7 12 0])
 (.seq (.seq (.reg false [oM 13 0 0,⟨some 14,none,.idxs (.t 13) (.k (.i .i64 0)),0⟩,⟨some 15,none,.bin .eql (.t 14) (.k (.i .u8 45)),0⟩])
 (.ite (.t 15) (.reg false [oF 16 3 7 0,⟨none,none,.store 1 (.t 16) (.k (.i .i64 2)),0⟩]) (.skip)))
 (.cut [0,2,6,7] [6,7] (.seq (.seq (.reg false [oM 17 2 0,oG 18 17 0,oI 19 0 0])
 (.blk 0 (.loop a137L0)))
 (.cut [6,7] [6,7] (.seq (.reg false [oJ 50 4 7 0,oS 4 6 50 0])
 (.cut [6] [6] .ret)))))))⟩
theorem ok137 : okFn Tryz.prog 3 Tryz.f137 a137 = true := by kernel_rfl
def a138 : AFn := ⟨2,19,[.t 4],
    .seq (.reg false [oB 2 24 0 0,oI 4 0 0])
 (.seq (.seq (.reg false [oJ 6 3 2 0,oC 7 0 22 [.t 6] 0,oM 5 7 0])
 (.seq (.reg false [oM 8 5 0,oY 9 .neq 8 0 0])
 (.ite (.t 9) (.seq (.reg false [oM 10 5 0,oM 4 10 0])
 (.cut [4] [] .ret)) (.skip))))
 (.cut [1,2] [2] (.seq (.seq (.reg false [oM 11 1 0,oY 12 .lss 11 0 0,oM 13 12 0,gf 13 (oM 14 1 0),gf 13 (oF 15 0 2 0),gf 13 (oL 16 15 0),gf 13 (oX 17 .geq 14 16 0),oP 18 13 17 0])
 (.ite (.t 18) (.seq (.reg false [oI 4 0 2])
 (.cut [4] [] .ret)) (.skip)))
 (.cut [] [] (.seq (.reg false [oI 4 0 0])
 (.cut [4] [] .ret))))))⟩
theorem ok138 : okFn Tryz.prog 3 Tryz.f138 a138 = true := by kernel_rfl
def a139L0 : AC := .cut [2,3,4,5,12,13,14] [2,3,4,5] (.seq (.reg false [oX 15 .lss 14 13 0])
 (.seq (.ite (.t 15) (.skip) (.cut [4,5] [4,5] (.exit 0)))
 (.cut [2,3,4,5,12,13,14] [2,3,4,5] (.seq (.blk 1 (.seq (.reg false [oM 16 14 0,oA 17 4 12 14 0,oJ 18 4 17 0,⟨some 7,none,.alloc true 71 [.i .i64 0,.i .u64 0,.i .u64 0,.i .i64 0],0⟩,oM 6 16 0,oS 4 7 18 0])
 (.seq (.reg false [oJ 19 4 7 0,oJ 20 4 3 0,oC 21 0 69 [.t 19,.t 20] 0,oN 22 21 0])
 (.ite (.t 22) (.reg true [oJ 23 4 5 0,oF 24 1 2 0,oL 25 24 2,oM 26 6 0,oA 27 4 25 26 14,oJ 28 4 27 30,oC 29 0 142 [.t 23,.t 28] 63,oS 4 5 29 127]) (.skip)))))
 (.cut [2,3,4,5,12,13,14] [2,3,4,5] (.reg false [oY 30 .add 14 0 1,oM 14 30 0]))))))
def a139 : AFn := ⟨2,32,[.cell 4 (some 4)],
    .seq (.reg false [oB 2 24 0 0,oB 3 71 1 0,⟨some 4,none,.alloc true 71 [.i .i64 0,.i .u64 0,.i .u64 0,.i .i64 0],0⟩])
 (.seq (.reg false [oF 8 0 2 0,oL 9 8 0,⟨some 10,none,.build [.i .i64 0,.i .u64 0,.i .u64 0,.i .i64 0] [(0,1,.t 9)],0⟩,⟨some 5,none,.alloc true 71 [.i .i64 0,.i .u64 0,.i .u64 0,.i .i64 0],0⟩,oS 4 5 10 0])
 (.seq (.seq (.reg false [oF 11 2 2 0,oL 12 11 0,oG 13 12 0,oI 14 0 0])
 (.blk 0 (.loop a139L0)))
 (.cut [4,5] [4,5] (.seq (.reg false [oJ 31 4 5 0,oS 4 4 31 0])
 (.cut [4] [4] .ret)))))⟩
theorem ok139 : okFn Tryz.prog 3 Tryz.f139 a139 = true := by kernel_rfl
def a140 : AFn := ⟨1,10,[.t 2],
    .seq (.reg false [oU 2 0])
 (.seq (.reg false [oM 3 0 0,⟨some 4,none,.pop (.fcmp .geq) [.t 3,.k (.f .f64 0)],0⟩,oM 5 4 0,gt 5 (oM 6 0 0),gt 5 (oC 7 0 149 [.t 6,.k (.i .i64 0)] 0),gt 5 (oN 8 7 0),oQ 9 5 8 0,oM 2 9 0])
 (.cut [2] [] .ret))⟩
theorem ok140 : okFn Tryz.prog 3 Tryz.f140 a140 = true := by kernel_rfl
def a141L0 : AC := .cut [0,1,2,3,7,8,9] [] (.seq (.reg false [oX 10 .lss 9 8 0])
 (.seq (.ite (.t 10) (.skip) (.cut [] [] (.exit 0)))
 (.cut [0,1,2,3,7,8,9] [] (.seq (.blk 1 (.seq (.reg false [oM 11 9 0,oA 12 4 7 9 0,oJ 13 4 12 0,⟨some 6,none,.alloc true 71 [.i .i64 0,.i .u64 0,.i .u64 0,.i .i64 0],0⟩,oM 5 11 0,oS 4 6 13 0])
 (.seq (.reg false [oM 14 5 0,oL 15 1 0,oX 16 .neq 14 15 0,oM 17 16 0,gt 17 (oJ 18 4 6 0),gt 17 (oJ 19 4 2 0),gt 17 (oC 20 0 69 [.t 18,.t 19] 0),gt 17 (oN 21 20 0),oQ 22 17 21 0])
 (.ite (.t 22) (.reg true [oM 23 0 0,oM 24 5 0,oJ 25 4 6 0,oF 26 1 3 0,oL 27 26 8,oL 28 1 0,oA 29 4 27 28 56,oJ 30 4 29 120,oC 31 0 142 [.t 25,.t 30] 252,oA 32 4 23 24 511,oS 4 32 31 1023]) (.skip)))))
 (.cut [0,1,2,3,7,8,9] [] (.reg false [oY 33 .add 9 0 1,oM 9 33 0]))))))
def a141 : AFn := ⟨4,34,[],
    .seq (.reg false [oM 7 0 0,oG 8 7 0,oI 9 0 0])
 (.blk 0 (.loop a141L0))⟩
theorem ok141 : okFn Tryz.prog 3 Tryz.f141 a141 = true := by kernel_rfl
def a142 : AFn := ⟨2,14,[.cell 4 (some 4)],
    .seq (.reg false [oB 2 71 0 0,oB 3 71 1 0,⟨some 4,none,.alloc true 71 [.i .i64 0,.i .u64 0,.i .u64 0,.i .i64 0],0⟩])
 (.seq (.reg false [oJ 8 4 2 0,oJ 9 4 3 0,oC 10 0 150 [.t 8,.t 9] 0,oM 7 10 0,oE 11 7 0 0,oE 12 7 1 0,⟨some 5,none,.alloc true 71 [.i .i64 0,.i .u64 0,.i .u64 0,.i .i64 0],0⟩,oS 4 5 11 0,oM 6 12 0])
 (.seq (.reg false [oJ 13 4 5 0,oS 4 4 13 0])
 (.cut [4] [4] .ret)))⟩
theorem ok142 : okFn Tryz.prog 3 Tryz.f142 a142 = true := by kernel_rfl
def a143L0 : AC := .cut [0,1,7,8] [] (.seq (.reg false [oX 9 .lss 8 7 0])
 (.seq (.ite (.t 9) (.skip) (.cut [] [] (.exit 0)))
 (.cut [0,1,7,8] [] (.seq (.blk 1 (.seq (.reg false [oM 10 8 0,oM 5 10 0])
 (.seq (.reg false [oM 11 1 0,oM 12 0 0,oM 13 5 0,oA 14 4 12 13 0,oJ 15 4 14 0,⟨some 16,none,.call 0 (.t 11) [.t 15],0⟩])
 (.ite (.t 16) (.seq (.reg false [oM 17 5 0,oM 4 17 0])
 (.cut [4] [] .ret)) (.skip)))))
 (.cut [0,1,7,8] [] (.reg false [oY 18 .add 8 0 1,oM 8 18 0]))))))
def a143 : AFn := ⟨2,19,[.t 4],
    .seq (.reg false [oI 4 0 0])
 (.seq (.seq (.reg false [oM 6 0 0,oG 7 6 0,oI 8 0 0])
 (.blk 0 (.loop a143L0)))
 (.cut [] [] (.seq (.reg false [oI 4 0 (-1)])
 (.cut [4] [] .ret))))⟩
theorem ok143 : okFn Tryz.prog 3 Tryz.f143 a143 = true := by kernel_rfl
def a144 : AFn := ⟨2,10,[.t 3],
    .seq (.reg false [oB 2 71 0 0,oU 3 0])
 (.seq (.reg false [oF 4 1 2 0,oL 5 4 0,oL 6 1 0,oX 7 .shr 5 6 0,⟨some 8,none,.bin .and (.t 7) (.k (.i .u64 1)),0⟩,⟨some 9,none,.bin .eql (.t 8) (.k (.i .u64 1)),0⟩,oM 3 9 0])
 (.cut [3] [] .ret))⟩
theorem ok144 : okFn Tryz.prog 3 Tryz.f144 a144 = true := by kernel_rfl
def a146 : AFn := ⟨1,13,[.cell 2 (some 4)],
    .seq (.reg false [⟨some 2,none,.alloc true 185 [.s ⟨#[]⟩,.i .i64 0,.i .i64 0,.i .i64 0],0⟩])
 (.seq (.seq (.reg false [oM 3 0 0,oY 4 .lss 3 0 1,oM 5 4 0,gf 5 (oM 6 0 0),gf 5 (oY 7 .gtr 6 0 20),oP 8 5 7 0])
 (.ite (.t 8) (.seq (.reg false [⟨some 9,none,.build [.s ⟨#[]⟩,.i .i64 0,.i .i64 0,.i .i64 0] [],0⟩,oS 4 2 9 0])
 (.cut [2] [2] .ret)) (.skip)))
 (.cut [0,2] [2] (.seq (.reg false [oC 10 0 151 [] 0,oM 11 0 0,⟨some 12,none,.idx 4 true 21 (.t 10) (.t 11),0⟩,oS 4 2 12 0])
 (.cut [2] [2] .ret))))⟩
theorem ok146 : okFn Tryz.prog 3 Tryz.f146 a146 = true := by kernel_rfl
def a147 : AFn := ⟨1,14,[.t 2],
    .seq (.reg false [oI 2 0 0])
 (.seq (.seq (.reg false [oM 3 0 0,⟨some 4,none,.bin .eql (.t 3) (.k (.i .u64 0)),0⟩])
 (.ite (.t 4) (.seq (.reg false [oI 2 0 64])
 (.cut [2] [] .ret)) (.skip)))
 (.cut [0] [] (.seq (.reg false [oM 5 0 0,oM 6 0 0,⟨some 7,none,.un .neg (.t 6),0⟩,oX 8 .and 5 7 0,⟨some 9,none,.bin .mul (.t 8) (.k (.i .u64 285870213051353865)),0⟩,⟨some 10,none,.bin .shr (.t 9) (.k (.i .u64 58)),0⟩,⟨some 11,none,.iadra 1 64 (.k (.p (some (1,0)))) (.t 10),0⟩,oL 12 11 0,⟨some 13,none,.conv .i64 (.t 12),0⟩,oM 2 13 0])
 (.cut [2] [] .ret))))⟩
theorem ok147 : okFn Tryz.prog 3 Tryz.f147 a147 = true := by kernel_rfl
def a148 : AFn := ⟨2,8,[.t 4],
    .seq (.reg false [oI 4 0 0])
 (.seq (.reg false [oM 5 0 0,oM 6 1 0,oC 7 0 152 [.t 5,.t 6] 0,oM 4 7 0])
 (.cut [4] [] .ret))⟩
theorem ok148 : okFn Tryz.prog 3 Tryz.f148 a148 = true := by kernel_rfl
def a149 : AFn := ⟨2,15,[.t 4],
    .seq (.reg false [oU 4 0])
 (.seq (.seq (.reg false [oM 5 1 0,oY 6 .eql 5 0 0])
 (.ite (.t 6) (.reg false [oM 7 0 0,oC 8 0 153 [.t 7] 0,oM 0 8 0]) (.seq (.reg false [oM 9 1 0,oY 10 .lss 9 0 0])
 (.ite (.t 10) (.reg false [oM 11 0 0,⟨some 12,none,.pop .fneg [.t 11],0⟩,oM 0 12 0]) (.skip)))))
 (.cut [0] [] (.seq (.reg false [oM 13 0 0,⟨some 14,none,.pop (.fcmp .gtr) [.t 13,.k (.f .f64 9218868437227405311)],0⟩,oM 4 14 0])
 (.cut [4] [] .ret))))⟩
theorem ok149 : okFn Tryz.prog 3 Tryz.f149 a149 = true := by kernel_rfl
def a150 : AFn := ⟨2,14,[.cell 4 (some 4),.t 5],
    .seq (.reg false [oB 2 71 0 0,oB 3 71 1 0,⟨some 4,none,.alloc true 71 [.i .i64 0,.i .u64 0,.i .u64 0,.i .i64 0],0⟩,oI 5 0 0])
 (.seq (.seq (.reg false [oJ 6 4 2 0,oJ 7 4 3 0,oC 8 0 154 [.t 6,.t 7] 0,oN 9 8 0])
 (.ite (.t 9) (.seq (.reg false [⟨some 10,none,.build [.i .i64 0,.i .u64 0,.i .u64 0,.i .i64 0] [],0⟩,oS 4 4 10 0,oI 5 0 130])
 (.cut [4,5] [4] .ret)) (.skip)))
 (.cut [2,3,4] [2,3,4] (.seq (.reg false [oJ 11 4 2 0,oJ 12 4 3 0,oC 13 0 136 [.t 11,.t 12] 0,oS 4 4 13 0,oI 5 0 0])
 (.cut [4,5] [4] .ret))))⟩
theorem ok150 : okFn Tryz.prog 3 Tryz.f150 a150 = true := by kernel_rfl
def a151 : AFn := ⟨0,22,[.cell 0 (some 84)],
    .seq (.reg false [⟨some 0,none,.alloc true 191 [.s ⟨#[]⟩,.i .i64 0,.i .i64 0,.i .i64 0,.s ⟨#[]⟩,.i .i64 0,.i .i64 0,.i .i64 0,.s ⟨#[]⟩,.i .i64 0,.i .i64 0,.i .i64 0,.s ⟨#[]⟩,.i .i64 0,.i .i64 0,.i .i64 0,.s ⟨#[]⟩,.i .i64 0,.i .i64 0,.i .i64 0,.s ⟨#[]⟩,.i .i64 0,.i .i64 0,.i .i64 0,.s ⟨#[]⟩,.i .i64 0,.i .i64 0,.i .i64 0,.s ⟨#[]⟩,.i .i64 0,.i .i64 0,.i .i64 0,.s ⟨#[]⟩,.i .i64 0,.i .i64 0,.i .i64 0,.s ⟨#[]⟩,.i .i64 0,.i .i64 0,.i .i64 0,.s ⟨#[]⟩,.i .i64 0,.i .i64 0,.i .i64 0,.s ⟨#[]⟩,.i .i64 0,.i .i64 0,.i .i64 0,.s ⟨#[]⟩,.i .i64 0,.i .i64 0,.i .i64 0,.s ⟨#[]⟩,.i .i64 0,.i .i64 0,.i .i64 0,.s ⟨#[]⟩,.i .i64 0,.i .i64 0,.i .i64 0,.s ⟨#[]⟩,.i .i64 0,.i .i64 0,.i .i64 0,.s ⟨#[]⟩,.i .i64 0,.i .i64 0,.i .i64 0,.s ⟨#[]⟩,.i .i64 0,.i .i64 0,.i .i64 0,.s ⟨#[]⟩,.i .i64 0,.i .i64 0,.i .i64 0,.s ⟨#[]⟩,.i .i64 0,.i .i64 0,.i .i64 0,.s ⟨#[]⟩,.i .i64 0,.i .i64 0,.i .i64 0],0⟩])
 (.seq (.reg false [⟨some 1,none,.build [.s ⟨#[]⟩,.i .i64 0,.i .i64 0,.i .i64 0] [(0,1,.k (.s ⟨#[105,100]⟩)),(1,1,.k (.i .i64 1)),(2,1,.k (.i .i64 0)),(3,1,.k (.i .i64 1))],0⟩,⟨some 2,none,.build [.s ⟨#[]⟩,.i .i64 0,.i .i64 0,.i .i64 0] [(0,1,.k (.s ⟨#[120]⟩)),(1,1,.k (.i .i64 1)),(2,1,.k (.i .i64 0)),(3,1,.k (.i .i64 2))],0⟩,⟨some 3,none,.build [.s ⟨#[]⟩,.i .i64 0,.i .i64 0,.i .i64 0] [(0,1,.k (.s ⟨#[121]⟩)),(1,1,.k (.i .i64 1)),(2,1,.k (.i .i64 0)),(3,1,.k (.i .i64 3))],0⟩,⟨some 4,none,.build [.s ⟨#[]⟩,.i .i64 0,.i .i64 0,.i .i64 0] [(0,1,.k (.s ⟨#[122]⟩)),(1,1,.k (.i .i64 1)),(2,1,.k (.i .i64 0)),(3,1,.k (.i .i64 4))],0⟩,⟨some 5,none,.build [.s ⟨#[]⟩,.i .i64 0,.i .i64 0,.i .i64 0] [(0,1,.k (.s ⟨#[115]⟩)),(1,1,.k (.i .i64 1)),(2,1,.k (.i .i64 0)),(3,1,.k (.i .i64 6))],0⟩,⟨some 6,none,.build [.s ⟨#[]⟩,.i .i64 0,.i .i64 0,.i .i64 0] [(0,1,.k (.s ⟨#[115,100,103]⟩)),(1,1,.k (.i .i64 1)),(2,1,.k (.i .i64 0)),(3,1,.k (.i .i64 5))],0⟩,⟨some 7,none,.build [.s ⟨#[]⟩,.i .i64 0,.i .i64 0,.i .i64 0] [(0,1,.k (.s ⟨#[115,120]⟩)),(1,1,.k (.i .i64 1)),(2,1,.k (.i .i64 0)),(3,1,.k (.i .i64 8))],0⟩,⟨some 8,none,.build [.s ⟨#[]⟩,.i .i64 0,.i .i64 0,.i .i64 0] [(0,1,.k (.s ⟨#[115,120,100,103]⟩)),(1,1,.k (.i .i64 1)),(2,1,.k (.i .i64 0)),(3,1,.k (.i .i64 7))],0⟩,⟨some 9,none,.build [.s ⟨#[]⟩,.i .i64 0,.i .i64 0,.i .i64 0] [(0,1,.k (.s ⟨#[115,121]⟩)),(1,1,.k (.i .i64 1)),(2,1,.k (.i .i64 0)),(3,1,.k (.i .i64 10))],0⟩,⟨some 10,none,.build [.s ⟨#[]⟩,.i .i64 0,.i .i64 0,.i .i64 0] [(0,1,.k (.s ⟨#[115,121,100,103]⟩)),(1,1,.k (.i .i64 1)),(2,1,.k (.i .i64 0)),(3,1,.k (.i .i64 9))],0⟩,⟨some 11,none,.build [.s ⟨#[]⟩,.i .i64 0,.i .i64 0,.i .i64 0] [(0,1,.k (.s ⟨#[99,120]⟩)),(1,1,.k (.i .i64 2)),(2,1,.k (.i .i64 1)),(3,1,.k (.i .i64 11))],0⟩,⟨some 12,none,.build [.s ⟨#[]⟩,.i .i64 0,.i .i64 0,.i .i64 0] [(0,1,.k (.s ⟨#[99,121]⟩)),(1,1,.k (.i .i64 2)),(2,1,.k (.i .i64 1)),(3,1,.k (.i .i64 12))],0⟩,⟨some 13,none,.build [.s ⟨#[]⟩,.i .i64 0,.i .i64 0,.i .i64 0] [(0,1,.k (.s ⟨#[99,122]⟩)),(1,1,.k (.i .i64 2)),(2,1,.k (.i .i64 0)),(3,1,.k (.i .i64 13))],0⟩,⟨some 14,none,.build [.s ⟨#[]⟩,.i .i64 0,.i .i64 0,.i .i64 0] [(0,1,.k (.s ⟨#[115,119,97,112]⟩)),(1,1,.k (.i .i64 2)),(2,1,.k (.i .i64 0)),(3,1,.k (.i .i64 14))],0⟩,⟨some 15,none,.build [.s ⟨#[]⟩,.i .i64 0,.i .i64 0,.i .i64 0] [(0,1,.k (.s ⟨#[105,115,119,97,112]⟩)),(1,1,.k (.i .i64 2)),(2,1,.k (.i .i64 0)),(3,1,.k (.i .i64 16))],0⟩,⟨some 16,none,.build [.s ⟨#[]⟩,.i .i64 0,.i .i64 0,.i .i64 0] [(0,1,.k (.s ⟨#[105,115,119,97,112,100,103]⟩)),(1,1,.k (.i .i64 2)),(2,1,.k (.i .i64 0)),(3,1,.k (.i .i64 15))],0⟩,⟨some 17,none,.build [.s ⟨#[]⟩,.i .i64 0,.i .i64 0,.i .i64 0] [(0,1,.k (.s ⟨#[104,104]⟩)),(1,1,.k (.i .i64 2)),(2,1,.k (.i .i64 0)),(3,1,.k (.i .i64 17))],0⟩,⟨some 18,none,.build [.s ⟨#[]⟩,.i .i64 0,.i .i64 0,.i .i64 0] [(0,1,.k (.s ⟨#[99,99,120]⟩)),(1,1,.k (.i .i64 3)),(2,1,.k (.i .i64 2)),(3,1,.k (.i .i64 18))],0⟩,⟨some 19,none,.build [.s ⟨#[]⟩,.i .i64 0,.i .i64 0,.i .i64 0] [(0,1,.k (.s ⟨#[99,99,122]⟩)),(1,1,.k (.i .i64 3)),(2,1,.k (.i .i64 0)),(3,1,.k (.i .i64 19))],0⟩,⟨some 20,none,.build [.s ⟨#[]⟩,.i .i64 0,.i .i64 0,.i .i64 0] [(0,1,.k (.s ⟨#[99,115,119,97,112]⟩)),(1,1,.k (.i .i64 3)),(2,1,.k (.i .i64 1)),(3,1,.k (.i .i64 20))],0⟩,⟨some 21,none,.build [.s ⟨#[]⟩,.i .i64 0,.i .i64 0,.i .i64 0,.s ⟨#[]⟩,.i .i64 0,.i .i64 0,.i .i64 0,.s ⟨#[]⟩,.i .i64 0,.i .i64 0,.i .i64 0,.s ⟨#[]⟩,.i .i64 0,.i .i64 0,.i .i64 0,.s ⟨#[]⟩,.i .i64 0,.i .i64 0,.i .i64 0,.s ⟨#[]⟩,.i .i64 0,.i .i64 0,.i .i64 0,.s ⟨#[]⟩,.i .i64 0,.i .i64 0,.i .i64 0,.s ⟨#[]⟩,.i .i64 0,.i .i64 0,.i .i64 0,.s ⟨#[]⟩,.i .i64 0,.i .i64 0,.i .i64 0,.s ⟨#[]⟩,.i .i64 0,.i .i64 0,.i .i64 0,.s ⟨#[]⟩,.i .i64 0,.i .i64 0,.i .i64 0,.s ⟨#[]⟩,.i .i64 0,.i .i64 0,.i .i64 0,.s ⟨#[]⟩,.i .i64 0,.i .i64 0,.i .i64 0,.s ⟨#[]⟩,.i .i64 0,.i .i64 0,.i .i64 0,.s ⟨#[]⟩,.i .i64 0,.i .i64 0,.i .i64 0,.s ⟨#[]⟩,.i .i64 0,.i .i64 0,.i .i64 0,.s ⟨#[]⟩,.i .i64 0,.i .i64 0,.i .i64 0,.s ⟨#[]⟩,.i .i64 0,.i .i64 0,.i .i64 0,.s ⟨#[]⟩,.i .i64 0,.i .i64 0,.i .i64 0,.s ⟨#[]⟩,.i .i64 0,.i .i64 0,.i .i64 0,.s ⟨#[]⟩,.i .i64 0,.i .i64 0,.i .i64 0] [(4,4,.t 1),(8,4,.t 2),(12,4,.t 3),(16,4,.t 4),(20,4,.t 5),(24,4,.t 6),(28,4,.t 7),(32,4,.t 8),(36,4,.t 9),(40,4,.t 10),(44,4,.t 11),(48,4,.t 12),(52,4,.t 13),(56,4,.t 14),(60,4,.t 15),(64,4,.t 16),(68,4,.t 17),(72,4,.t 18),(76,4,.t 19),(80,4,.t 20)],0⟩,oS 84 0 21 0])
 (.cut [0] [0] .ret))⟩
theorem ok151 : okFn Tryz.prog 3 Tryz.f151 a151 = true := by kernel_rfl
def a153 : AFn := ⟨1,7,[.t 2],
    .seq (.reg false [⟨some 2,none,.mv (.k (.f .f64 0)),0⟩])
 (.seq (.reg false [oM 3 0 0,⟨some 4,none,.pop .fbits [.t 3],0⟩,⟨some 5,none,.bin .andNot (.t 4) (.k (.i .u64 9223372036854775808)),0⟩,⟨some 6,none,.pop .ffrom [.t 5],0⟩,oM 2 6 0])
 (.cut [2] [] .ret))⟩
theorem ok153 : okFn Tryz.prog 3 Tryz.f153 a153 = true := by kernel_rfl
def a154 : AFn := ⟨2,18,[.t 4],
    .seq (.reg false [oB 2 71 0 0,oB 3 71 1 0,oU 4 0])
 (.seq (.reg false [oJ 5 4 2 0,oC 6 0 71 [.t 5] 0,oM 7 6 0,gt 7 (oJ 8 4 3 0),gt 7 (oC 9 0 71 [.t 8] 0),oQ 10 7 9 0,oM 11 10 0,gt 11 (oF 12 0 2 0),gt 11 (oL 13 12 0),gt 11 (oF 14 0 3 0),gt 11 (oL 15 14 0),gt 11 (oX 16 .eql 13 15 0),oQ 17 11 16 0,oM 4 17 0])
 (.cut [4] [] .ret))⟩
theorem ok154 : okFn Tryz.prog 3 Tryz.f154 a154 = true := by kernel_rfl
end Go.Proofs.YtchgkmdonhdfeaaGreatDoor.Ab
