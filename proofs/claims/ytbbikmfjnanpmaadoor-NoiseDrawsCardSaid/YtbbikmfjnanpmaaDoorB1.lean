/- The functions,for the abstract machine. Written by gen.py. No condition. -/
import Derived.Test.YtbbikmfjnanpmaaDoorAC
import Derived.Test.YtbbikmfjnanpmaaDoorProg
set_option linter.unusedVariables false
set_option maxRecDepth 100000
namespace Go.Proofs.YtbbikmfjnanpmaaDoor.Ab
open Go
def oM (d x m : Nat) : AOper := ⟨some d, none, .mv (.t x), m⟩
def oL (d x m : Nat) : AOper := ⟨some d, none, .load none (.t x), m⟩
def oJ (d t x m : Nat) : AOper := ⟨some d, none, .load (some t) (.t x), m⟩
def oF (d i x m : Nat) : AOper := ⟨some d, none, .fadr i (.t x), m⟩
def oS (t x y m : Nat) : AOper := ⟨none, none, .store t (.t x) (.t y), m⟩
def oA (d t x y m : Nat) : AOper := ⟨some d, none, .iadr t (.t x) (.t y), m⟩
def oP (d x y m : Nat) : AOper := ⟨some d, none, .pick (.t x) (.k (.b true)) (.t y), m⟩
def oE (d x i m : Nat) : AOper := ⟨some d, none, .ext (.t x) i, m⟩
def oB (d t x m : Nat) : AOper := ⟨some d, none, .box true t (.t x), m⟩
def oQ (d x y m : Nat) : AOper := ⟨some d, none, .pick (.t x) (.t y) (.k (.b false)), m⟩
def oN (d x m : Nat) : AOper := ⟨some d, none, .un .not (.t x), m⟩
def oT (d m : Nat) : AOper := ⟨some d, none, .mv (.k (.b true)), m⟩
def oU (d m : Nat) : AOper := ⟨some d, none, .mv (.k (.b false)), m⟩
def oG (d x m : Nat) : AOper := ⟨some d, none, .len false (.t x), m⟩
def oI (d m : Nat) (z : Int) : AOper := ⟨some d, none, .mv (.k (.i .i64 z)), m⟩
def oC (d g f : Nat) (l : List AX) (m : Nat) : AOper := ⟨some d, none, .call g (.k (.fn (.func f) [] [])) l, m⟩
def oX (d : Nat) (o : BinOp) (x y m : Nat) : AOper := ⟨some d, none, .bin o (.t x) (.t y), m⟩
def oY (d : Nat) (o : BinOp) (x m : Nat) (z : Int) : AOper := ⟨some d, none, .bin o (.t x) (.k (.i .i64 z)), m⟩
def gf (g : Nat) : AOper → AOper | ⟨d, _, o, m⟩ => ⟨d, some (g, false), o, m⟩
def gt (g : Nat) : AOper → AOper | ⟨d, _, o, m⟩ => ⟨d, some (g, true), o, m⟩
def a4L0 : AC := .cut [3,9,12,15] [] (.seq (.seq (.reg false [oM 53 15 0,oM 54 9 0,oG 55 54 0,oX 56 .lss 53 55 0])
 (.ite (.t 56) (.skip) (.cut [3] [] (.exit 0))))
 (.cut [3,9,12,15] [] (.seq (.blk 1 (.seq (.reg true [oM 59 9 0,oM 60 15 0,oA 61 5 59 60 3,oJ 62 5 61 7,oM 63 12 0,oM 64 15 0,oA 65 5 63 64 48,oJ 66 5 65 112,⟨some 67,none,.eqs true [0,0,0,0,0] (.t 62) (.t 66),255⟩])
 (.ite (.t 67) (.seq (.reg false [oU 8 0])
 (.cut [8] [] .ret)) (.skip))))
 (.cut [3,9,12,15] [] (.reg false [oM 57 15 0,oY 58 .add 57 0 1,oM 15 58 0])))))
def a4L1 : AC := .cut [16,18,20] [] (.seq (.seq (.reg false [oM 89 20 0,oM 90 16 0,oG 91 90 0,oX 92 .lss 89 91 0])
 (.ite (.t 92) (.skip) (.cut [] [] (.exit 2))))
 (.cut [16,18,20] [] (.seq (.blk 3 (.seq (.reg true [oM 95 16 0,oM 96 20 0,oA 97 1 95 96 3,oL 98 97 7,oM 99 18 0,oM 100 20 0,oA 101 1 99 100 48,oL 102 101 112,oC 103 0 20 [.t 98,.t 102] 255,oN 104 103 511])
 (.ite (.t 104) (.seq (.reg false [oU 8 0])
 (.cut [8] [] .ret)) (.skip))))
 (.cut [16,18,20] [] (.reg false [oM 93 20 0,oY 94 .add 93 0 1,oM 20 94 0])))))
def a4 : AFn := ⟨4,106,[.t 8],
    .seq (.reg false [oB 4 24 0 0,oU 8 0])
 (.seq (.reg false [oJ 22 3 4 0,oM 23 1 0,oM 24 2 0,oC 25 0 16 [.t 22,.t 23,.t 24] 0,oM 21 25 0,oE 26 21 0 0,oE 27 21 1 0,oE 28 21 2 0,oM 9 26 0,oM 10 27 0,oM 11 28 0])
 (.seq (.reg false [oJ 30 3 4 0,oM 31 1 0,oM 32 2 0,oC 33 0 17 [.t 30,.t 31,.t 32] 0,oM 29 33 0,oE 34 29 0 0,oE 35 29 1 0,oE 36 29 2 0,oM 12 34 0,oM 13 35 0,oM 14 36 0])
 (.seq (.seq (.reg false [oM 37 11 0,oC 38 0 11 [.t 37] 0,oM 39 14 0,oX 40 .neq 38 39 0,oM 41 40 0,gf 41 (oM 42 10 0),gf 41 (oM 43 13 0),gf 41 (oX 44 .neq 42 43 0),oP 45 41 44 0,oM 46 45 0,gf 46 (oM 47 9 0),gf 46 (oG 48 47 0),gf 46 (oM 49 12 0),gf 46 (oG 50 49 0),gf 46 (oX 51 .neq 48 50 0),oP 52 46 51 0])
 (.ite (.t 52) (.seq (.reg false [oU 8 0])
 (.cut [8] [] .ret)) (.skip)))
 (.cut [3,9,12] [] (.seq (.seq (.reg false [oI 15 0 0])
 (.blk 0 (.loop a4L0)))
 (.cut [3] [] (.seq (.reg false [oM 69 3 0,oC 70 0 18 [.t 69] 0,oM 68 70 0,oE 71 68 0 0,oE 72 68 1 0,oM 16 71 0,oM 17 72 0])
 (.seq (.reg false [oM 74 3 0,oC 75 0 19 [.t 74] 0,oM 73 75 0,oE 76 73 0 0,oE 77 73 1 0,oM 18 76 0,oM 19 77 0])
 (.seq (.seq (.reg false [oM 78 17 0,oC 79 0 11 [.t 78] 0,oM 80 19 0,oX 81 .neq 79 80 0,oM 82 81 0,gf 82 (oM 83 16 0),gf 82 (oG 84 83 0),gf 82 (oM 85 18 0),gf 82 (oG 86 85 0),gf 82 (oX 87 .neq 84 86 0),oP 88 82 87 0])
 (.ite (.t 88) (.seq (.reg false [oU 8 0])
 (.cut [8] [] .ret)) (.skip)))
 (.cut [16,18] [] (.seq (.seq (.reg false [oI 20 0 0])
 (.blk 2 (.loop a4L1)))
 (.cut [] [] (.seq (.reg false [oC 105 0 15 [] 0,oM 8 105 0])
 (.cut [8] [] .ret))))))))))))))⟩
theorem ok4 : okFn Tryd.prog 3 Tryd.f4 a4 = true := by kernel_rfl
def a9L0 : AC := .cutg 3 [1,4,7,8,9] [4] (.seq (.seq (.reg false [oM 31 1 0,oG 32 31 0,oY 33 .gtr 32 0 0,oM 34 33 0,gt 34 (oM 35 1 0),gt 34 ⟨some 36,none,.iadr 5 (.t 35) (.k (.i .i64 0)),0⟩,gt 34 (oF 37 0 36 0),gt 34 (oL 38 37 0),gt 34 (oM 39 9 0),gt 34 (oX 40 .eql 38 39 0),oQ 41 34 40 0])
 (.ite (.t 41) (.skip) (.cutg 3 [1,4,7,8,9] [4] (.exit 2))))
 (.cutg 3 [1,4,7,8,9] [4] (.blk 3 (.seq (.reg false [oM 42 1 0,⟨some 43,none,.iadr 5 (.t 42) (.k (.i .i64 0)),0⟩,oF 44 1 43 0,oJ 45 4 44 0,⟨some 46,none,.mkf (.func 30) [] [.t 8],0⟩,oC 47 2 29 [.t 45,.t 46] 0])
 (.reg false [oM 48 1 0,⟨some 49,none,.slc 5 (.t 48) (some (.k (.i .i64 1))) none none,0⟩,oM 1 49 0])))))
def a9L1 : AC := .cutg 3 [1,4,7,8,9] [4] (.seq (.seq (.reg false [oM 25 9 0,oM 26 7 0,oG 27 26 0,oX 28 .leq 25 27 0])
 (.ite (.t 28) (.skip) (.cutg 3 [4,8] [4] (.exit 0))))
 (.cutg 3 [1,4,7,8,9] [4] (.seq (.blk 1 (.seq (.blk 2 (.loop a9L0))
 (.cutg 3 [1,4,7,8,9] [4] (.seq (.reg false [oM 50 9 0,oM 51 7 0,oG 52 51 0,oX 53 .lss 50 52 0])
 (.ite (.t 53) (.reg true [oF 54 2 8 0,oL 55 54 1,oM 56 7 0,oM 57 9 0,oA 58 6 56 57 12,oJ 59 6 58 28,⟨some 60,none,.bslice 40 6 1 [.i .i64 0,.i .i64 0,.sl none 0 (.ex 0),.i .i64 0,.i .i64 0,.i .i64 0] [(0,6,.t 59)],60⟩,⟨some 61,none,.app 40 6 64 (.t 55) (.t 60),127⟩,oF 62 2 8 255,oS 1 62 61 511]) (.skip))))))
 (.cutg 3 [1,4,7,8,9] [4] (.reg false [oM 29 9 0,oY 30 .add 29 0 1,oM 9 30 0])))))
def a9 : AFn := ⟨2,69,[.cell 4 (some 3),.t 5],
    .seq (.reg false [oB 2 24 0 0,⟨some 4,none,.alloc true 24 [.i .i64 0,.i .i64 0,.sl none 0 (.ex 0)],0⟩,oI 5 0 0])
 (.seq (.seq (.reg false [oJ 10 3 2 0,oM 11 1 0,oC 12 0 13 [.t 10,.t 11] 0,oM 6 12 0])
 (.seq (.reg false [oM 13 6 0,oY 14 .neq 13 0 0])
 (.ite (.t 14) (.seq (.reg false [⟨some 15,none,.build [.i .i64 0,.i .i64 0,.sl none 0 (.ex 0)] [],0⟩,oM 16 6 0,oS 3 4 15 0,oM 5 16 0])
 (.cutg 3 [4,5] [4] .ret)) (.skip))))
 (.cutg 3 [1,2,4] [2,4] (.seq (.reg false [oJ 17 3 2 0,oC 18 2 28 [.t 17] 0,⟨some 19,none,.fld 2 none (.t 18),0⟩,oM 7 19 0])
 (.seq (.reg false [oF 20 0 2 0,oL 21 20 0,oF 22 1 2 0,oL 23 22 0,⟨some 24,none,.build [.i .i64 0,.i .i64 0,.sl none 0 (.ex 0)] [(0,1,.t 21),(1,1,.t 23)],0⟩,⟨some 8,none,.alloc false 24 [.i .i64 0,.i .i64 0,.sl none 0 (.ex 0)],0⟩,oS 3 8 24 0])
 (.seq (.seq (.reg false [oI 9 0 0])
 (.blk 0 (.loop a9L1)))
 (.cutg 3 [4,8] [4] (.seq (.seq (.reg false [oF 63 2 8 0,oL 64 63 0,oG 65 64 0,oY 66 .gtr 65 0 4096])
 (.ite (.t 66) (.seq (.reg false [⟨some 67,none,.build [.i .i64 0,.i .i64 0,.sl none 0 (.ex 0)] [],0⟩,oS 3 4 67 0,oI 5 0 240])
 (.cutg 3 [4,5] [4] .ret)) (.skip)))
 (.cutg 3 [4,8] [4] (.seq (.reg false [oJ 68 3 8 0,oS 3 4 68 0,oI 5 0 0])
 (.cutg 3 [4,5] [4] .ret))))))))))⟩
theorem ok9 : okFn Tryd.prog 3 Tryd.f9 a9 = true := by kernel_rfl
def a11 : AFn := ⟨1,4,[.t 2],
    .seq (.reg false [oI 2 0 0])
 (.seq (.reg false [oM 3 0 0,oM 2 3 0])
 (.cut [2] [] .ret))⟩
theorem ok11 : okFn Tryd.prog 3 Tryd.f11 a11 = true := by kernel_rfl
def a13L0 : AC := .cut [2,7,18,19,20] [2] (.seq (.reg false [oX 21 .lss 20 19 0])
 (.seq (.ite (.t 21) (.skip) (.cut [] [] (.exit 0)))
 (.cut [2,7,18,19,20] [2] (.seq (.blk 1 (.seq (.reg false [oA 22 5 18 20 0,oJ 23 5 22 0,⟨some 9,none,.alloc true 53 [.i .i64 0,.i .i64 0,.i .u64 0,.i .u64 0,.i .i64 0],0⟩,oS 5 9 23 0])
 (.seq (.seq (.reg false [oF 24 0 9 0,oL 25 24 0,oM 26 7 0,oX 27 .lss 25 26 0,oM 28 27 0,gf 28 (oF 29 0 9 0),gf 28 (oL 30 29 0),gf 28 (oF 31 2 2 0),gf 28 (oL 32 31 0),gf 28 (oG 33 32 0),gf 28 (oX 34 .gtr 30 33 0),oP 35 28 34 0,oM 36 35 0,gf 36 (oF 37 1 9 0),gf 36 (oJ 38 4 37 0),gf 36 (oC 39 0 34 [.t 38] 0),gf 36 (oY 40 .neq 39 0 0),oP 41 36 40 0,oM 42 41 0,gf 42 (oF 43 1 9 0),gf 42 (oF 44 0 43 0),gf 42 (oL 45 44 0),gf 42 (oF 46 0 2 0),gf 42 (oL 47 46 0),gf 42 (oX 48 .neq 45 47 0),oP 49 42 48 0])
 (.ite (.t 49) (.seq (.reg false [oI 4 0 240])
 (.cut [4] [] .ret)) (.skip)))
 (.cut [2,9,18,19,20] [2,9] (.reg false [oF 50 0 9 0,oL 51 50 0,oM 7 51 0])))))
 (.cut [2,7,18,19,20] [2] (.reg false [oY 52 .add 20 0 1,oM 20 52 0]))))))
def a13 : AFn := ⟨2,53,[.t 4],
    .seq (.reg false [oB 2 24 0 0,oI 4 0 0])
 (.seq (.seq (.reg false [oJ 11 3 2 0,oC 12 0 33 [.t 11] 0,oM 10 12 0,oE 13 10 0 0,oE 14 10 1 0,oM 5 13 0,oM 6 14 0])
 (.seq (.reg false [oM 15 6 0,oY 16 .neq 15 0 0])
 (.ite (.t 16) (.seq (.reg false [oM 17 6 0,oM 4 17 0])
 (.cut [4] [] .ret)) (.skip))))
 (.cut [1,2] [2] (.seq (.reg false [oI 7 0 0])
 (.seq (.seq (.reg false [oM 18 1 0,oG 19 18 0,oI 20 0 0])
 (.blk 0 (.loop a13L0)))
 (.cut [] [] (.seq (.reg false [oI 4 0 0])
 (.cut [4] [] .ret)))))))⟩
theorem ok13 : okFn Tryd.prog 3 Tryd.f13 a13 = true := by kernel_rfl
def a15 : AFn := ⟨0,209,[.t 0],
    .seq (.reg false [oU 0 0])
 (.seq (.reg false [⟨some 16,none,.bslice 3 1 2 [.i .i64 0,.i .i64 0] [(0,1,.k (.i .i64 0)),(1,1,.k (.i .i64 1))],0⟩,oC 17 0 37 [.k (.i .i64 11),.t 16] 0,⟨some 18,none,.bslice 3 1 1 [.i .i64 0] [(0,1,.k (.i .i64 1))],0⟩,⟨some 19,none,.build [.i .i64 0,.i .i64 0,.sl none 0 (.ex 0),.i .i64 0,.i .i64 0,.i .i64 0] [(0,1,.k (.i .i64 2)),(2,1,.t 18),(4,1,.k (.i .i64 (-1)))],0⟩,⟨some 20,none,.bslice 40 6 2 [.i .i64 0,.i .i64 0,.sl none 0 (.ex 0),.i .i64 0,.i .i64 0,.i .i64 0,.i .i64 0,.i .i64 0,.sl none 0 (.ex 0),.i .i64 0,.i .i64 0,.i .i64 0] [(0,6,.t 17),(6,6,.t 19)],0⟩,⟨some 21,none,.build [.i .i64 0,.i .i64 0,.sl none 0 (.ex 0)] [(0,1,.k (.i .i64 2)),(1,1,.k (.i .i64 1)),(2,1,.t 20)],0⟩,⟨some 1,none,.alloc true 24 [.i .i64 0,.i .i64 0,.sl none 0 (.ex 0)],0⟩,oS 3 1 21 0])
 (.seq (.reg false [⟨some 22,none,.build [.i .i64 0,.i .u64 0,.i .u64 0,.i .i64 0] [(0,1,.k (.i .i64 2)),(1,1,.k (.i .u64 1))],0⟩,⟨some 23,none,.build [.i .i64 0,.i .i64 0,.i .u64 0,.i .u64 0,.i .i64 0] [(1,4,.t 22)],0⟩,⟨some 24,none,.bslice 53 5 1 [.i .i64 0,.i .i64 0,.i .u64 0,.i .u64 0,.i .i64 0] [(0,5,.t 23)],0⟩,oM 2 24 0])
 (.seq (.reg false [oJ 26 3 1 0,oM 27 2 0,oC 28 0 9 [.t 26,.t 27] 0,oM 25 28 0,oE 29 25 0 0,oE 30 25 1 0,⟨some 3,none,.alloc true 24 [.i .i64 0,.i .i64 0,.sl none 0 (.ex 0)],0⟩,oS 3 3 29 0,oM 4 30 0])
 (.seq (.reg false [oJ 32 3 1 0,oM 33 2 0,oC 34 0 21 [.t 32,.t 33] 0,oM 31 34 0,oE 35 31 0 0,oE 36 31 1 0,⟨some 5,none,.alloc true 62 [.i .i64 0,.i .u64 0,.i .u64 0,.i .i64 0,.sl none 0 (.ex 0),.sl none 0 (.ex 0)],0⟩,oS 6 5 35 0,oM 6 36 0])
 (.seq (.reg false [oJ 38 3 1 0,⟨some 39,none,.bslice 43 1 2 [.f .f64 0,.f .f64 0] [(0,1,.k (.f .f64 4587366580439587226)),(1,1,.k (.f .f64 4602678819172646912))],0⟩,oC 40 0 16 [.t 38,.k (.f .f64 4599075939470750515),.t 39] 0,oM 37 40 0,oE 41 37 0 0,oE 42 37 1 0,oE 43 37 2 0,oM 7 41 0,oM 8 42 0,oM 9 43 0])
 (.seq (.reg false [⟨some 45,none,.bslice 3 1 2 [.i .i64 0,.i .i64 0] [(0,1,.k (.i .i64 1)),(1,1,.k (.i .i64 0))],0⟩,oC 46 0 18 [.t 45] 0,oM 44 46 0,oE 47 44 0 0,oE 48 44 1 0,oM 10 47 0,oM 11 48 0])
 (.seq (.reg false [⟨some 50,none,.bslice 97 1 4 [.c .f64 0 0,.c .f64 0 0,.c .f64 0 0,.c .f64 0 0] [(0,1,.k (.c .f64 4602678819172646912 0)),(1,1,.k (.c .f64 4602678819172646912 0)),(2,1,.k (.c .f64 4602678819172646912 0)),(3,1,.k (.c .f64 4602678819172646912 0))],0⟩,⟨some 51,none,.build [.i .i64 0,.sl none 0 (.ex 0)] [(0,1,.k (.i .i64 2)),(1,1,.t 50)],0⟩,oC 52 0 38 [.t 51,.k (.i .i64 0),.k (.i .i64 2),.k (.i .i64 1)] 0,oM 49 52 0,oE 53 49 0 0,oE 54 49 1 0,⟨some 12,none,.alloc true 94 [.i .i64 0,.sl none 0 (.ex 0)],0⟩,oS 2 12 53 0,oM 13 54 0])
 (.seq (.reg false [⟨some 56,none,.bslice 3 1 3 [.i .i64 0,.i .i64 0,.i .i64 0] [(0,1,.k (.i .i64 0)),(1,1,.k (.i .i64 1)),(2,1,.k (.i .i64 2))],0⟩,oC 57 0 37 [.k (.i .i64 18),.t 56] 0,⟨some 58,none,.bslice 40 6 1 [.i .i64 0,.i .i64 0,.sl none 0 (.ex 0),.i .i64 0,.i .i64 0,.i .i64 0] [(0,6,.t 57)],0⟩,⟨some 59,none,.build [.i .i64 0,.i .i64 0,.sl none 0 (.ex 0)] [(0,1,.k (.i .i64 3)),(2,1,.t 58)],0⟩,oC 60 0 21 [.t 59,.k (.sl none 0 (.ex 0))] 0,oM 55 60 0,oE 61 55 0 0,oE 62 55 1 0,⟨some 14,none,.alloc true 62 [.i .i64 0,.i .u64 0,.i .u64 0,.i .i64 0,.sl none 0 (.ex 0),.sl none 0 (.ex 0)],0⟩,oS 6 14 61 0,oM 15 62 0])
 (.seq (.reg false [oM 63 4 0,oC 64 0 11 [.t 63] 0,oY 65 .eql 64 0 0,oM 66 65 0,gt 66 (oF 67 2 3 0),gt 66 (oL 68 67 0),gt 66 (oG 69 68 0),gt 66 (oY 70 .eql 69 0 3),oQ 71 66 70 0,oM 72 71 0,gt 72 (oF 73 2 3 0),gt 72 (oL 74 73 0),gt 72 ⟨some 75,none,.iadr 6 (.t 74) (.k (.i .i64 0)),0⟩,gt 72 (oF 76 1 75 0),gt 72 (oL 77 76 0),gt 72 (oY 78 .eql 77 0 2),oQ 79 72 78 0,oM 80 79 0,gt 80 (oM 81 6 0),gt 80 (oC 82 0 11 [.t 81] 0),gt 80 (oY 83 .eql 82 0 0),oQ 84 80 83 0,oM 85 84 0,gt 85 (oF 86 0 5 0),gt 85 (oJ 87 4 86 0),gt 85 ⟨some 88,none,.build [.i .i64 0,.i .u64 0,.i .u64 0,.i .i64 0] [(0,1,.k (.i .i64 2)),(1,1,.k (.i .u64 3))],0⟩,gt 85 ⟨some 89,none,.eqs false [0,0,0,0] (.t 87) (.t 88),0⟩,oQ 90 85 89 0,oM 91 90 0,gt 91 (oF 92 4 5 0),gt 91 (oL 93 92 0),gt 91 (oG 94 93 0),gt 91 (oY 95 .eql 94 0 1),oQ 96 91 95 0,oM 97 96 0,gt 97 (oF 98 4 5 0),gt 97 (oL 99 98 0),gt 97 ⟨some 100,none,.iadr 1 (.t 99) (.k (.i .i64 0)),0⟩,gt 97 (oL 101 100 0),oQ 102 97 101 0,oM 103 102 0,gt 103 (oF 104 5 5 0),gt 103 (oL 105 104 0),gt 103 (oG 106 105 0),gt 103 (oY 107 .eql 106 0 1),oQ 108 103 107 0,oM 109 108 0,gt 109 (oF 110 5 5 0),gt 109 (oL 111 110 0),gt 109 ⟨some 112,none,.iadr 1 (.t 111) (.k (.i .i64 0)),0⟩,gt 109 (oL 113 112 0),oQ 114 109 113 0,oM 115 114 0,gt 115 (oM 116 9 0),gt 115 (oC 117 0 11 [.t 116] 0),gt 115 (oY 118 .eql 117 0 0),oQ 119 115 118 0,oM 120 119 0,gt 120 (oM 121 8 0),gt 120 (oY 122 .eql 121 0 2),oQ 123 120 122 0,oM 124 123 0,gt 124 (oM 125 7 0),gt 124 (oG 126 125 0),gt 124 (oY 127 .eql 126 0 1),oQ 128 124 127 0,oM 129 128 0,gt 129 (oM 130 7 0),gt 129 ⟨some 131,none,.iadr 5 (.t 130) (.k (.i .i64 0)),0⟩,gt 129 (oF 132 1 131 0),gt 129 (oJ 133 4 132 0),gt 129 ⟨some 134,none,.build [.i .i64 0,.i .u64 0,.i .u64 0,.i .i64 0] [(0,1,.k (.i .i64 2)),(1,1,.k (.i .u64 1))],0⟩,gt 129 ⟨some 135,none,.eqs false [0,0,0,0] (.t 133) (.t 134),0⟩,oQ 136 129 135 0,oM 137 136 0,gt 137 (oM 138 7 0),gt 137 ⟨some 139,none,.iadr 5 (.t 138) (.k (.i .i64 0)),0⟩,gt 137 (oF 140 0 139 0),gt 137 (oL 141 140 0),gt 137 (oY 142 .eql 141 0 1),oQ 143 137 142 0,oM 144 143 0,gt 144 (oM 145 11 0),gt 144 (oC 146 0 11 [.t 145] 0),gt 144 (oY 147 .eql 146 0 0),oQ 148 144 147 0,oM 149 148 0,gt 149 (oM 150 10 0),gt 149 (oG 151 150 0),gt 149 (oY 152 .eql 151 0 2),oQ 153 149 152 0,oM 154 153 0,gt 154 (oM 155 10 0),gt 154 ⟨some 156,none,.iadr 1 (.t 155) (.k (.i .i64 0)),0⟩,gt 154 (oL 157 156 0),gt 154 ⟨some 158,none,.pop (.fcmp .eql) [.t 157,.k (.f .f64 0)],0⟩,oQ 159 154 158 0,oM 160 159 0,gt 160 (oM 161 10 0),gt 160 ⟨some 162,none,.iadr 1 (.t 161) (.k (.i .i64 1)),0⟩,gt 160 (oL 163 162 0),gt 160 ⟨some 164,none,.pop (.fcmp .lss) [.t 163,.k (.f .f64 4607182418800017408)],0⟩,oQ 165 160 164 0,oM 166 165 0,gt 166 (oM 167 13 0),gt 166 (oC 168 0 11 [.t 167] 0),gt 166 (oY 169 .eql 168 0 0),oQ 170 166 169 0,oM 171 170 0,gt 171 (oF 172 0 12 0),gt 171 (oL 173 172 0),gt 171 (oY 174 .eql 173 0 2),oQ 175 171 174 0,oM 176 175 0,gt 176 (oF 177 1 12 0),gt 176 (oL 178 177 0),gt 176 (oG 179 178 0),gt 176 (oY 180 .eql 179 0 4),oQ 181 176 180 0,oM 182 181 0,gt 182 (oF 183 1 12 0),gt 182 (oL 184 183 0),gt 182 ⟨some 185,none,.iadr 1 (.t 184) (.k (.i .i64 0)),0⟩,gt 182 (oL 186 185 0),gt 182 ⟨some 187,none,.pop (.ceq false) [.t 186,.k (.c .f64 4602678819172646912 0)],0⟩,oQ 188 182 187 0,oM 189 188 0,gt 189 (oF 190 1 12 0),gt 189 (oL 191 190 0),gt 189 ⟨some 192,none,.iadr 1 (.t 191) (.k (.i .i64 1)),0⟩,gt 189 (oL 193 192 0),gt 189 ⟨some 194,none,.pop (.ceq false) [.t 193,.k (.c .f64 0 0)],0⟩,oQ 195 189 194 0,oM 196 195 0,gt 196 (oM 197 15 0),gt 196 (oC 198 0 11 [.t 197] 0),gt 196 (oY 199 .eql 198 0 241),oQ 200 196 199 0,oM 201 200 0,gt 201 (oJ 202 3 1 0),gt 201 ⟨some 203,none,.build [.i .i64 0,.i .i64 0,.i .u64 0,.i .u64 0,.i .i64 0] [(0,1,.k (.i .i64 3))],0⟩,gt 201 ⟨some 204,none,.bslice 53 5 1 [.i .i64 0,.i .i64 0,.i .u64 0,.i .u64 0,.i .i64 0] [(0,5,.t 203)],0⟩,gt 201 (oC 205 0 13 [.t 202,.t 204] 0),gt 201 (oC 206 0 11 [.t 205] 0),gt 201 (oY 207 .eql 206 0 240),oQ 208 201 207 0,oM 0 208 0])
 (.cutg 3 [0] [] .ret))))))))))⟩
theorem ok15 : okFn Tryd.prog 3 Tryd.f15 a15 = true := by kernel_rfl
def a16L0 : AC := .cutg 3 [1,2,3,11,12,13,35,36,37,46,47,48] [3] (.seq (.reg false [oX 49 .lss 48 47 0])
 (.seq (.ite (.t 49) (.skip) (.cutg 3 [1,2,3,11,12,35,36,37] [3] (.exit 2)))
 (.cutg 3 [1,2,3,11,12,13,35,36,37,46,47,48] [3] (.seq (.blk 3 (.seq (.reg false [oA 50 1 46 48 0,oL 51 50 0,oM 16 51 0])
 (.seq (.seq (.reg false [oM 52 12 0,oM 53 2 0,oG 54 53 0,oX 55 .geq 52 54 0,oM 56 55 0,gf 56 (oM 57 2 0),gf 56 (oM 58 12 0),gf 56 (oA 59 1 57 58 0),gf 56 (oL 60 59 0),gf 56 ⟨some 61,none,.pop (.fcmp .geq) [.t 60,.k (.f .f64 0)],0⟩,gf 56 (oM 62 61 0),gt 62 (oM 63 2 0),gt 62 (oM 64 12 0),gt 62 (oA 65 1 63 64 0),gt 62 (oL 66 65 0),gt 62 ⟨some 67,none,.pop (.fcmp .lss) [.t 66,.k (.f .f64 4607182418800017408)],0⟩,gf 56 (oQ 68 62 67 0),gf 56 (oN 69 68 0),oP 70 56 69 0])
 (.ite (.t 70) (.seq (.reg false [⟨some 6,none,.mv (.k (.sl none 0 (.ex 0))),0⟩,oI 7 0 0,oI 8 0 240])
 (.cutg 3 [6,7,8] [] .ret)) (.skip)))
 (.cutg 3 [1,2,3,11,12,13,16,35,36,37,46,47,48] [3] (.seq (.seq (.reg false [oM 71 2 0,oM 72 12 0,oA 73 1 71 72 0,oL 74 73 0,oM 75 1 0,⟨some 76,none,.pop (.fcmp .lss) [.t 74,.t 75],0⟩])
 (.ite (.t 76) (.seq (.reg false [oM 78 2 0,oM 79 12 0,oA 80 1 78 79 0,oL 81 80 0,oM 82 1 0,oC 83 0 39 [.t 81,.t 82] 0,oM 77 83 0,oE 84 77 0 0,oE 85 77 1 0,oM 17 84 0,oM 18 85 0])
 (.reg true [oM 86 11 0,oM 87 13 0,oY 88 .add 87 2 1,oF 89 0 3 0,oL 90 89 8,oM 91 17 0,oM 92 16 0,oX 93 .shl 91 92 96,oM 94 18 0,oM 95 16 0,oX 96 .shl 94 95 768,⟨some 97,none,.build [.i .i64 0,.i .u64 0,.i .u64 0,.i .i64 0] [(0,1,.t 90),(1,1,.t 93),(2,1,.t 96)],2040⟩,⟨some 98,none,.build [.i .i64 0,.i .i64 0,.i .u64 0,.i .u64 0,.i .i64 0] [(0,1,.t 88),(1,4,.t 97)],4094⟩,⟨some 99,none,.bslice 53 5 1 [.i .i64 0,.i .i64 0,.i .u64 0,.i .u64 0,.i .i64 0] [(0,5,.t 98)],8190⟩,⟨some 100,none,.app 53 5 40 (.t 86) (.t 99),16383⟩,oM 11 100 32767])) (.skip)))
 (.cutg 3 [1,2,3,11,12,13,35,36,37,46,47,48] [3] (.reg false [oM 101 12 0,oY 102 .add 101 0 1,oM 12 102 0])))))))
 (.cutg 3 [1,2,3,11,12,13,35,36,37,46,47,48] [3] (.reg false [oY 103 .add 48 0 1,oM 48 103 0]))))))
def a16L1 : AC := .cutg 3 [1,2,3,11,12,35,36,37] [3] (.seq (.reg false [oX 38 .lss 37 36 0])
 (.seq (.ite (.t 38) (.skip) (.cutg 3 [11,12] [] (.exit 0)))
 (.cutg 3 [1,2,3,11,12,35,36,37] [3] (.seq (.blk 1 (.seq (.reg false [oM 39 37 0,oA 40 6 35 37 0,oJ 41 6 40 0,⟨some 14,none,.alloc true 40 [.i .i64 0,.i .i64 0,.sl none 0 (.ex 0),.i .i64 0,.i .i64 0,.i .i64 0],0⟩,oM 13 39 0,oS 6 14 41 0])
 (.seq (.seq (.reg false [oF 42 0 14 0,oL 43 42 0,oY 44 .neq 43 0 1])
 (.ite (.t 44) (.cutg 3 [1,2,3,11,12,35,36,37] [3] (.exit 1)) (.skip)))
 (.cutg 3 [1,2,3,11,12,13,14,35,36,37] [3,14] (.seq (.reg false [oF 45 2 14 0,oL 46 45 0,oG 47 46 0,oI 48 0 0])
 (.blk 2 (.loop a16L0)))))))
 (.cutg 3 [1,2,3,11,12,35,36,37] [3] (.reg false [oY 104 .add 37 0 1,oM 37 104 0]))))))
def a16 : AFn := ⟨3,107,[.t 6,.t 7,.t 8],
    .seq (.reg false [oB 3 24 0 0,⟨some 6,none,.mv (.k (.sl none 0 (.ex 0))),0⟩,oI 7 0 0,oI 8 0 0])
 (.seq (.seq (.reg false [oJ 20 3 3 0,oC 21 0 33 [.t 20] 0,oM 19 21 0,oE 22 19 0 0,oE 23 19 1 0,oM 9 22 0,oM 10 23 0])
 (.seq (.reg false [oM 24 10 0,oY 25 .neq 24 0 0])
 (.ite (.t 25) (.seq (.reg false [oM 26 10 0,⟨some 6,none,.mv (.k (.sl none 0 (.ex 0))),0⟩,oI 7 0 0,oM 8 26 0])
 (.cutg 3 [6,7,8] [] .ret)) (.skip))))
 (.cutg 3 [1,2,3] [3] (.seq (.seq (.reg false [oM 27 1 0,⟨some 28,none,.pop (.fcmp .geq) [.t 27,.k (.f .f64 0)],0⟩,oM 29 28 0,gt 29 (oM 30 1 0),gt 29 ⟨some 31,none,.pop (.fcmp .leq) [.t 30,.k (.f .f64 4607182418800017408)],0⟩,oQ 32 29 31 0,oN 33 32 0])
 (.ite (.t 33) (.seq (.reg false [⟨some 6,none,.mv (.k (.sl none 0 (.ex 0))),0⟩,oI 7 0 0,oI 8 0 240])
 (.cutg 3 [6,7,8] [] .ret)) (.skip)))
 (.cutg 3 [1,2,3] [3] (.seq (.reg false [⟨some 11,none,.mv (.k (.sl none 0 (.ex 0))),0⟩])
 (.seq (.reg false [oI 12 0 0])
 (.seq (.seq (.reg false [oF 34 2 3 0,oL 35 34 0,oG 36 35 0,oI 37 0 0])
 (.blk 0 (.loop a16L1)))
 (.cutg 3 [11,12] [] (.seq (.reg false [oM 105 11 0,oM 106 12 0,oM 6 105 0,oM 7 106 0,oI 8 0 0])
 (.cutg 3 [6,7,8] [] .ret))))))))))⟩
theorem ok16 : okFn Tryd.prog 3 Tryd.f16 a16 = true := by kernel_rfl
def a17L0 : AC := .cutg 3 [1,2,3,9,10,11,12,13] [3,12] (.seq (.seq (.reg false [oM 41 13 0,oF 42 2 12 0,oL 43 42 0,oG 44 43 0,oX 45 .lss 41 44 0,oM 46 45 0,gt 46 (oF 47 0 12 0),gt 46 (oL 48 47 0),gt 46 (oY 49 .eql 48 0 1),oQ 50 46 49 0])
 (.ite (.t 50) (.skip) (.cutg 3 [1,2,3,9,10,11] [3] (.exit 2))))
 (.cutg 3 [1,2,3,9,10,11,12,13] [3,12] (.seq (.blk 3 (.seq (.seq (.reg false [oM 53 10 0,oM 54 2 0,oG 55 54 0,oX 56 .geq 53 55 0,oM 57 56 0,gf 57 (oM 58 2 0),gf 57 (oM 59 10 0),gf 57 (oA 60 1 58 59 0),gf 57 (oL 61 60 0),gf 57 ⟨some 62,none,.pop (.fcmp .geq) [.t 61,.k (.f .f64 0)],0⟩,gf 57 (oM 63 62 0),gt 63 (oM 64 2 0),gt 63 (oM 65 10 0),gt 63 (oA 66 1 64 65 0),gt 63 (oL 67 66 0),gt 63 ⟨some 68,none,.pop (.fcmp .lss) [.t 67,.k (.f .f64 4607182418800017408)],0⟩,gf 57 (oQ 69 63 68 0),gf 57 (oN 70 69 0),oP 71 57 70 0])
 (.ite (.t 71) (.seq (.reg false [⟨some 6,none,.mv (.k (.sl none 0 (.ex 0))),0⟩,oI 7 0 0,oI 8 0 240])
 (.cutg 3 [6,7,8] [] .ret)) (.skip)))
 (.cutg 3 [1,2,3,9,10,11,12,13] [3,12] (.seq (.reg false [oM 72 2 0,oM 73 10 0,oA 74 1 72 73 0,oL 75 74 0,oM 14 75 0])
 (.seq (.reg false [oM 76 10 0,oY 77 .add 76 0 1,oM 10 77 0])
 (.seq (.seq (.reg false [oM 78 14 0,oM 79 1 0,⟨some 80,none,.pop (.fcmp .geq) [.t 78,.t 79],0⟩])
 (.ite (.t 80) (.cutg 3 [1,2,3,9,10,11,12,13] [3,12] (.exit 3)) (.skip)))
 (.cutg 3 [1,2,3,9,10,11,12,13,14] [3,12] (.seq (.reg false [oF 81 0 3 0,oL 82 81 0,⟨some 83,none,.build [.i .i64 0,.i .u64 0,.i .u64 0,.i .i64 0] [(0,1,.t 82)],0⟩,⟨some 15,none,.alloc true 51 [.i .i64 0,.i .u64 0,.i .u64 0,.i .i64 0],0⟩,oS 4 15 83 0])
 (.seq (.reg false [oF 84 2 12 0,oL 85 84 0,oM 86 13 0,oA 87 1 85 86 0,oL 88 87 0,⟨some 89,none,.conv .u64 (.t 88),0⟩,⟨some 90,none,.bin .shl (.k (.i .u64 1)) (.t 89),0⟩,oM 16 90 0])
 (.seq (.reg false [oM 91 14 0,⟨some 92,none,.pop (.fbin .mul) [.t 91,.k (.f .f64 4613937818241073152)],0⟩,oM 17 92 0])
 (.seq (.reg false [oM 93 14 0,⟨some 94,none,.pop (.fbin .mul) [.t 93,.k (.f .f64 4613937818241073152)],0⟩,⟨some 95,none,.pop (.fbin .quo) [.t 94,.k (.f .f64 4611686018427387904)],0⟩,oM 18 95 0])
 (.seq (.seq (.reg false [oM 96 17 0,oM 97 1 0,⟨some 98,none,.pop (.fcmp .lss) [.t 96,.t 97],0⟩,oM 99 98 0,gf 99 (oM 100 18 0),gf 99 (oM 101 1 0),gf 99 ⟨some 102,none,.pop (.fcmp .geq) [.t 100,.t 101],0⟩,oP 103 99 102 0])
 (.ite (.t 103) (.reg false [oM 104 16 0,oF 105 1 15 0,oS 1 105 104 0]) (.skip)))
 (.cutg 3 [1,2,3,9,10,11,12,13,15,16,17] [3,12,15] (.seq (.seq (.reg false [oM 106 17 0,oM 107 1 0,⟨some 108,none,.pop (.fcmp .geq) [.t 106,.t 107],0⟩])
 (.ite (.t 108) (.reg false [oM 109 16 0,oF 110 2 15 0,oS 1 110 109 0]) (.skip)))
 (.cutg 3 [1,2,3,9,10,11,12,13,15] [3,12,15] (.reg false [oM 111 9 0,oM 112 11 0,oY 113 .add 112 0 1,oJ 114 4 15 0,⟨some 115,none,.build [.i .i64 0,.i .i64 0,.i .u64 0,.i .u64 0,.i .i64 0] [(0,1,.t 113),(1,4,.t 114)],0⟩,⟨some 116,none,.bslice 53 5 1 [.i .i64 0,.i .i64 0,.i .u64 0,.i .u64 0,.i .i64 0] [(0,5,.t 115)],0⟩,⟨some 117,none,.app 53 5 40 (.t 111) (.t 116),0⟩,oM 9 117 0]))))))))))))))))
 (.cutg 3 [1,2,3,9,10,11,12,13] [3,12] (.reg false [oM 51 13 0,oY 52 .add 51 0 1,oM 13 52 0])))))
def a17L1 : AC := .cutg 3 [1,2,3,9,10,11] [3] (.seq (.seq (.reg false [oM 29 11 0,oF 30 2 3 0,oL 31 30 0,oG 32 31 0,oX 33 .lss 29 32 0])
 (.ite (.t 33) (.skip) (.cutg 3 [9,10] [] (.exit 0))))
 (.cutg 3 [1,2,3,9,10,11] [3] (.seq (.blk 1 (.seq (.reg false [oF 36 2 3 0,oL 37 36 0,oM 38 11 0,oA 39 6 37 38 0,oJ 40 6 39 0,⟨some 12,none,.alloc true 40 [.i .i64 0,.i .i64 0,.sl none 0 (.ex 0),.i .i64 0,.i .i64 0,.i .i64 0],0⟩,oS 6 12 40 0])
 (.seq (.reg false [oI 13 0 0])
 (.blk 2 (.loop a17L0)))))
 (.cutg 3 [1,2,3,9,10,11] [3] (.reg false [oM 34 11 0,oY 35 .add 34 0 1,oM 11 35 0])))))
def a17 : AFn := ⟨3,120,[.t 6,.t 7,.t 8],
    .seq (.reg false [oB 3 24 0 0,⟨some 6,none,.mv (.k (.sl none 0 (.ex 0))),0⟩,oI 7 0 0,oI 8 0 0])
 (.seq (.seq (.reg false [oJ 19 3 3 0,oC 20 0 35 [.t 19] 0,oN 21 20 0])
 (.ite (.t 21) (.seq (.reg false [⟨some 6,none,.mv (.k (.sl none 0 (.ex 0))),0⟩,oI 7 0 0,oI 8 0 80])
 (.cutg 3 [6,7,8] [] .ret)) (.skip)))
 (.cutg 3 [1,2,3] [3] (.seq (.seq (.reg false [oM 22 1 0,⟨some 23,none,.pop (.fcmp .geq) [.t 22,.k (.f .f64 0)],0⟩,oM 24 23 0,gt 24 (oM 25 1 0),gt 24 ⟨some 26,none,.pop (.fcmp .leq) [.t 25,.k (.f .f64 4607182418800017408)],0⟩,oQ 27 24 26 0,oN 28 27 0])
 (.ite (.t 28) (.seq (.reg false [⟨some 6,none,.mv (.k (.sl none 0 (.ex 0))),0⟩,oI 7 0 0,oI 8 0 240])
 (.cutg 3 [6,7,8] [] .ret)) (.skip)))
 (.cutg 3 [1,2,3] [3] (.seq (.reg false [⟨some 9,none,.mv (.k (.sl none 0 (.ex 0))),0⟩])
 (.seq (.reg false [oI 10 0 0])
 (.seq (.seq (.reg false [oI 11 0 0])
 (.blk 0 (.loop a17L1)))
 (.cutg 3 [9,10] [] (.seq (.reg false [oM 118 9 0,oM 119 10 0,oM 6 118 0,oM 7 119 0,oI 8 0 0])
 (.cutg 3 [6,7,8] [] .ret))))))))))⟩
theorem ok17 : okFn Tryd.prog 3 Tryd.f17 a17 = true := by kernel_rfl
def a18L0 : AC := .cutg 3 [4,10,11,12] [] (.seq (.reg false [oX 13 .lss 12 11 0])
 (.seq (.ite (.t 13) (.skip) (.cutg 3 [4] [] (.exit 0)))
 (.cutg 3 [4,10,11,12] [] (.seq (.blk 1 (.seq (.reg false [oA 14 1 10 12 0,oL 15 14 0,oM 6 15 0])
 (.seq (.seq (.reg false [oM 16 6 0,oY 17 .neq 16 0 0,oM 18 17 0,gt 18 (oM 19 6 0),gt 18 (oY 20 .neq 19 0 1),oQ 21 18 20 0])
 (.ite (.t 21) (.seq (.reg false [⟨some 2,none,.mv (.k (.sl none 0 (.ex 0))),0⟩,oI 3 0 240])
 (.cutg 3 [2,3] [] .ret)) (.skip)))
 (.cutg 3 [4,6,10,11,12] [] (.reg false [oM 22 4 0,⟨some 23,none,.build [.f .f64 0,.f .f64 0] [(0,1,.k (.f .f64 4607182418800017407)),(1,1,.k (.f .f64 0))],0⟩,oM 24 6 0,⟨some 25,none,.idx 1 false 2 (.t 23) (.t 24),0⟩,⟨some 26,none,.bslice 43 1 1 [.f .f64 0] [(0,1,.t 25)],0⟩,⟨some 27,none,.app 43 1 8 (.t 22) (.t 26),0⟩,oM 4 27 0])))))
 (.cutg 3 [4,10,11,12] [] (.reg false [oY 28 .add 12 0 1,oM 12 28 0]))))))
def a18 : AFn := ⟨1,30,[.t 2,.t 3],
    .seq (.reg false [⟨some 2,none,.mv (.k (.sl none 0 (.ex 0))),0⟩,oI 3 0 0])
 (.seq (.reg false [oM 7 0 0,oG 8 7 0,⟨some 9,none,.mks 43 1 8 [.f .f64 0] (.k (.i .i64 0)) (.t 8),0⟩,oM 4 9 0])
 (.seq (.seq (.reg false [oM 10 0 0,oG 11 10 0,oI 12 0 0])
 (.blk 0 (.loop a18L0)))
 (.cutg 3 [4] [] (.seq (.reg false [oM 29 4 0,oM 2 29 0,oI 3 0 0])
 (.cutg 3 [2,3] [] .ret)))))⟩
theorem ok18 : okFn Tryd.prog 3 Tryd.f18 a18 = true := by kernel_rfl
def a19L0 : AC := .cutg 3 [0,4,5] [] (.seq (.seq (.reg false [oM 6 5 0,oM 7 0 0,oG 8 7 0,oX 9 .lss 6 8 0])
 (.ite (.t 9) (.skip) (.cutg 3 [4] [] (.exit 0))))
 (.cutg 3 [0,4,5] [] (.seq (.blk 1 (.seq (.reg false [oM 12 0 0,oM 13 5 0,oA 14 1 12 13 0,oL 15 14 0])
 (.blk 2 (.seq (.reg false [oY 17 .eql 15 0 0,oM 16 17 0])
 (.ite (.t 16) (.reg false [oM 18 4 0,⟨some 19,none,.bslice 43 1 1 [.f .f64 0] [(0,1,.k (.f .f64 4607182418800017407))],0⟩,⟨some 20,none,.app 43 1 8 (.t 18) (.t 19),0⟩,oM 4 20 0]) (.seq (.reg false [oY 22 .eql 15 0 1,oM 21 22 0])
 (.ite (.t 21) (.reg false [oM 23 4 0,⟨some 24,none,.bslice 43 1 1 [.f .f64 0] [(0,1,.k (.f .f64 0))],0⟩,⟨some 25,none,.app 43 1 8 (.t 23) (.t 24),0⟩,oM 4 25 0]) (.seq (.reg false [⟨some 2,none,.mv (.k (.sl none 0 (.ex 0))),0⟩,oI 3 0 240])
 (.cutg 3 [2,3] [] .ret)))))))))
 (.cutg 3 [0,4,5] [] (.reg false [oM 10 5 0,oY 11 .add 10 0 1,oM 5 11 0])))))
def a19 : AFn := ⟨1,27,[.t 2,.t 3],
    .seq (.reg false [⟨some 2,none,.mv (.k (.sl none 0 (.ex 0))),0⟩,oI 3 0 0])
 (.seq (.reg false [⟨some 4,none,.mv (.k (.sl none 0 (.ex 0))),0⟩])
 (.seq (.seq (.reg false [oI 5 0 0])
 (.blk 0 (.loop a19L0)))
 (.cutg 3 [4] [] (.seq (.reg false [oM 26 4 0,oM 2 26 0,oI 3 0 0])
 (.cutg 3 [2,3] [] .ret)))))⟩
theorem ok19 : okFn Tryd.prog 3 Tryd.f19 a19 = true := by kernel_rfl
def a20 : AFn := ⟨2,10,[.t 4],
    .seq (.reg false [oU 4 0])
 (.seq (.reg false [oM 5 0 0,oC 6 0 40 [.t 5] 0,oM 7 1 0,oC 8 0 40 [.t 7] 0,oX 9 .eql 6 8 0,oM 4 9 0])
 (.cut [4] [] .ret))⟩
theorem ok20 : okFn Tryd.prog 3 Tryd.f20 a20 = true := by kernel_rfl
def a21L0 : AC := .cutg 3 [2,4,7,8,30,31,32] [2,4] (.seq (.reg false [oX 33 .lss 32 31 0])
 (.seq (.ite (.t 33) (.skip) (.cutg 3 [2,4,7,8] [2,4] (.exit 0)))
 (.cutg 3 [2,4,7,8,30,31,32] [2,4] (.seq (.blk 1 (.seq (.reg false [oM 34 32 0,oA 35 6 30 32 0,oJ 36 6 35 0,⟨some 10,none,.alloc true 40 [.i .i64 0,.i .i64 0,.sl none 0 (.ex 0),.i .i64 0,.i .i64 0,.i .i64 0],0⟩,oM 9 34 0,oS 6 10 36 0])
 (.seq (.reg false [oM 37 8 0,oM 38 9 0,⟨some 39,none,.call 2 (.t 37) [.t 38],0⟩])
 (.seq (.reg false [oL 40 7 0,oJ 41 6 10 0,oC 42 2 43 [.t 40,.t 41] 0,oM 11 42 0])
 (.seq (.reg false [oM 43 11 0,oY 44 .neq 43 0 0])
 (.ite (.t 44) (.seq (.reg false [⟨some 45,none,.build [.i .i64 0,.i .u64 0,.i .u64 0,.i .i64 0,.sl none 0 (.ex 0),.sl none 0 (.ex 0)] [],0⟩,oM 46 11 0,oS 6 4 45 0,oM 5 46 0])
 (.cutg 3 [4,5] [4] .ret)) (.skip)))))))
 (.cutg 3 [2,4,7,8,30,31,32] [2,4] (.reg false [oY 47 .add 32 0 1,oM 32 47 0]))))))
def a21 : AFn := ⟨2,57,[.cell 4 (some 6),.t 5],
    .seq (.reg false [oB 2 24 0 0,⟨some 3,none,.box false 25 (.t 1),0⟩,⟨some 4,none,.alloc true 62 [.i .i64 0,.i .u64 0,.i .u64 0,.i .i64 0,.sl none 0 (.ex 0),.sl none 0 (.ex 0)],0⟩,oI 5 0 0])
 (.seq (.seq (.reg false [oJ 12 3 2 0,oL 13 3 0,oC 14 0 13 [.t 12,.t 13] 0,oM 6 14 0])
 (.seq (.reg false [oM 15 6 0,oY 16 .neq 15 0 0])
 (.ite (.t 16) (.seq (.reg false [⟨some 17,none,.build [.i .i64 0,.i .u64 0,.i .u64 0,.i .i64 0,.sl none 0 (.ex 0),.sl none 0 (.ex 0)] [],0⟩,oM 18 6 0,oS 6 4 17 0,oM 5 18 0])
 (.cutg 3 [4,5] [4] .ret)) (.skip))))
 (.cutg 3 [2,3,4] [2,4] (.seq (.reg true [oF 19 0 2 0,oL 20 19 1,⟨some 21,none,.build [.i .i64 0,.i .u64 0,.i .u64 0,.i .i64 0] [(0,1,.t 20)],3⟩,oF 22 1 2 0,oL 23 22 8,⟨some 24,none,.mks 4 1 1 [.b false] (.t 23) (.t 23),24⟩,⟨some 25,none,.build [.i .i64 0,.i .u64 0,.i .u64 0,.i .i64 0,.sl none 0 (.ex 0),.sl none 0 (.ex 0)] [(0,4,.t 21),(4,1,.t 24)],63⟩,⟨some 26,none,.build [.i .i64 0,.i .u64 0,.i .u64 0,.i .i64 0,.sl none 0 (.ex 0),.sl none 0 (.ex 0)] [(0,6,.t 25)],127⟩,⟨some 27,none,.box false 106 (.t 26),255⟩,⟨some 7,none,.alloc false 104 [.p none],0⟩,oS 1 7 27 1023])
 (.seq (.reg false [⟨some 28,none,.mkf (.func 41) [] [.t 3,.t 7],0⟩,oM 8 28 0])
 (.seq (.seq (.reg false [oF 29 2 2 0,oL 30 29 0,oG 31 30 0,oI 32 0 0])
 (.blk 0 (.loop a21L0)))
 (.cutg 3 [2,4,7,8] [2,4] (.seq (.reg false [oM 48 8 0,oF 49 2 2 0,oL 50 49 0,oG 51 50 0,⟨some 52,none,.call 2 (.t 48) [.t 51],0⟩])
 (.seq (.reg false [oL 53 7 0,⟨some 54,none,.nchk (.t 53),0⟩,oF 55 0 54 0,oJ 56 6 55 0,oS 6 4 56 0,oI 5 0 0])
 (.cutg 3 [4,5] [4] .ret)))))))))⟩
theorem ok21 : okFn Tryd.prog 3 Tryd.f21 a21 = true := by kernel_rfl
def a28L0 : AC := .cut [2,3,12,13,14] [2,3] (.seq (.reg false [oX 15 .lss 14 13 0])
 (.seq (.ite (.t 15) (.skip) (.cut [2,3] [2,3] (.exit 0)))
 (.cut [2,3,12,13,14] [2,3] (.seq (.blk 1 (.seq (.reg false [oA 16 6 12 14 0,oJ 17 6 16 0,⟨some 5,none,.alloc true 40 [.i .i64 0,.i .i64 0,.sl none 0 (.ex 0),.i .i64 0,.i .i64 0,.i .i64 0],0⟩,oS 6 5 17 0])
 (.seq (.reg false [oF 18 2 5 0,oL 19 18 0,oC 20 1 49 [.t 19] 0,oF 21 2 5 0,oS 1 21 20 0])
 (.reg false [oF 22 2 3 0,oL 23 22 0,oJ 24 6 5 0,⟨some 25,none,.bslice 40 6 1 [.i .i64 0,.i .i64 0,.sl none 0 (.ex 0),.i .i64 0,.i .i64 0,.i .i64 0] [(0,6,.t 24)],0⟩,⟨some 26,none,.app 40 6 64 (.t 23) (.t 25),0⟩,oF 27 2 3 0,oS 1 27 26 0]))))
 (.cut [2,3,12,13,14] [2,3] (.reg false [oY 28 .add 14 0 1,oM 14 28 0]))))))
def a28 : AFn := ⟨1,30,[.cell 2 (some 3)],
    .seq (.reg false [oB 1 24 0 0,⟨some 2,none,.alloc true 24 [.i .i64 0,.i .i64 0,.sl none 0 (.ex 0)],0⟩])
 (.seq (.reg false [oF 6 0 1 0,oL 7 6 0,oF 8 1 1 0,oL 9 8 0,⟨some 10,none,.build [.i .i64 0,.i .i64 0,.sl none 0 (.ex 0)] [(0,1,.t 7),(1,1,.t 9)],0⟩,⟨some 3,none,.alloc true 24 [.i .i64 0,.i .i64 0,.sl none 0 (.ex 0)],0⟩,oS 3 3 10 0])
 (.seq (.seq (.reg false [oF 11 2 1 0,oL 12 11 0,oG 13 12 0,oI 14 0 0])
 (.blk 0 (.loop a28L0)))
 (.cut [2,3] [2,3] (.seq (.reg false [oJ 29 3 3 0,oS 3 2 29 0])
 (.cut [2] [2] .ret)))))⟩
theorem ok28 : okFn Tryd.prog 3 Tryd.f28 a28 = true := by kernel_rfl
def a29L0 : AC := .cut [1,2,4,11,12] [2] (.seq (.reg false [oX 13 .lss 12 11 0])
 (.seq (.ite (.t 13) (.skip) (.cut [] [] (.exit 0)))
 (.cut [1,2,4,11,12] [2] (.seq (.blk 1 (.seq (.reg false [oM 14 12 0,oM 5 14 0])
 (.seq (.reg false [oM 16 4 0,oJ 17 4 2 0,oM 18 5 0,oC 19 0 50 [.t 17,.t 18] 0,⟨some 20,none,.mlk .u8 (.i .i64 0) (.t 16) (.t 19),0⟩,oM 15 20 0,oE 21 15 0 0,oE 22 15 1 0,oM 6 21 0,oM 7 22 0])
 (.seq (.reg false [oM 23 7 0])
 (.ite (.t 23) (.reg false [oM 24 1 0,oM 25 5 0,oM 26 6 0,⟨some 27,none,.call 2 (.t 24) [.t 25,.t 26],0⟩]) (.skip))))))
 (.cut [1,2,4,11,12] [2] (.reg false [oY 28 .add 12 0 1,oM 12 28 0]))))))
def a29 : AFn := ⟨2,29,[],
    .seq (.reg false [oB 2 51 0 0])
 (.seq (.regm 8 [9,4] .u8 [(88,2),(89,3),(90,4)])
 (.seq (.reg false [oF 10 0 2 0,oL 11 10 0,oI 12 0 0])
 (.blk 0 (.loop a29L0))))⟩
theorem ok29 : okFn Tryd.prog 3 Tryd.f29 a29 = true := by kernel_rfl
def a30 : AFn := ⟨3,14,[],
    .reg false [oF 5 2 2 0,oL 6 5 0,oM 7 1 0,oM 8 0 0,⟨some 9,none,.bslice 3 1 1 [.i .i64 0] [(0,1,.t 8)],0⟩,⟨some 10,none,.build [.i .i64 0,.i .i64 0,.sl none 0 (.ex 0),.i .i64 0,.i .i64 0,.i .i64 0] [(0,1,.k (.i .i64 1)),(1,1,.t 7),(2,1,.t 9),(4,1,.k (.i .i64 (-1)))],0⟩,⟨some 11,none,.bslice 40 6 1 [.i .i64 0,.i .i64 0,.sl none 0 (.ex 0),.i .i64 0,.i .i64 0,.i .i64 0] [(0,6,.t 10)],0⟩,⟨some 12,none,.app 40 6 64 (.t 6) (.t 11),0⟩,oF 13 2 2 0,oS 1 13 12 0]⟩
theorem ok30 : okFn Tryd.prog 3 Tryd.f30 a30 = true := by kernel_rfl
def a33L0 : AC := .cut [1,31,32,33] [1] (.seq (.reg false [oX 34 .lss 33 32 0])
 (.seq (.ite (.t 34) (.skip) (.cut [] [] (.exit 0)))
 (.cut [1,31,32,33] [1] (.seq (.blk 1 (.seq (.reg false [oM 35 33 0,oA 36 6 31 33 0,oJ 37 6 36 0,⟨some 5,none,.alloc true 40 [.i .i64 0,.i .i64 0,.sl none 0 (.ex 0),.i .i64 0,.i .i64 0,.i .i64 0],0⟩,oM 4 35 0,oS 6 5 37 0])
 (.seq (.reg false [oJ 38 6 5 0,oF 39 0 1 0,oL 40 39 0,oF 41 1 1 0,oL 42 41 0,oC 43 0 52 [.t 38,.t 40,.t 42] 0,oN 44 43 0])
 (.ite (.t 44) (.seq (.reg false [oM 45 4 0,oM 2 45 0,oI 3 0 80])
 (.cut [2,3] [] .ret)) (.skip)))))
 (.cut [1,31,32,33] [1] (.reg false [oY 46 .add 33 0 1,oM 33 46 0]))))))
def a33 : AFn := ⟨1,47,[.t 2,.t 3],
    .seq (.reg false [oB 1 24 0 0,oI 2 0 0,oI 3 0 0])
 (.seq (.seq (.reg false [oF 6 0 1 0,oL 7 6 0,oY 8 .lss 7 0 0,oM 9 8 0,gf 9 (oF 10 0 1 0),gf 9 (oL 11 10 0),gf 9 (oY 12 .gtr 11 0 64),oP 13 9 12 0,oM 14 13 0,gf 14 (oF 15 1 1 0),gf 14 (oL 16 15 0),gf 14 (oY 17 .lss 16 0 0),oP 18 14 17 0,oM 19 18 0,gf 19 (oF 20 1 1 0),gf 19 (oL 21 20 0),gf 19 (oY 22 .gtr 21 0 64),oP 23 19 22 0,oM 24 23 0,gf 24 (oF 25 2 1 0),gf 24 (oL 26 25 0),gf 24 (oG 27 26 0),gf 24 (oY 28 .gtr 27 0 4096),oP 29 24 28 0])
 (.ite (.t 29) (.seq (.reg false [oI 2 0 (-1),oI 3 0 80])
 (.cut [2,3] [] .ret)) (.skip)))
 (.cut [1] [1] (.seq (.seq (.reg false [oF 30 2 1 0,oL 31 30 0,oG 32 31 0,oI 33 0 0])
 (.blk 0 (.loop a33L0)))
 (.cut [] [] (.seq (.reg false [oI 2 0 0,oI 3 0 0])
 (.cut [2,3] [] .ret))))))⟩
theorem ok33 : okFn Tryd.prog 3 Tryd.f33 a33 = true := by kernel_rfl
def a34 : AFn := ⟨1,37,[.t 2],
    .seq (.reg false [oB 1 51 0 0,oI 2 0 0])
 (.seq (.seq (.reg false [oF 3 0 1 0,oL 4 3 0,oY 5 .lss 4 0 0,oM 6 5 0,gf 6 (oF 7 0 1 0),gf 6 (oL 8 7 0),gf 6 (oY 9 .gtr 8 0 64),oP 10 6 9 0,oM 11 10 0,gf 11 (oF 12 3 1 0),gf 11 (oL 13 12 0),gf 11 (oY 14 .lss 13 0 0),oP 15 11 14 0,oM 16 15 0,gf 16 (oF 17 3 1 0),gf 16 (oL 18 17 0),gf 16 (oY 19 .gtr 18 0 3),oP 20 16 19 0,oM 21 20 0,gf 21 (oF 22 0 1 0),gf 21 (oL 23 22 0),gf 21 (oY 24 .lss 23 0 64),gf 21 (oM 25 24 0),gt 25 (oF 26 1 1 0),gt 25 (oL 27 26 0),gt 25 (oF 28 2 1 0),gt 25 (oL 29 28 0),gt 25 (oX 30 .or 27 29 0),gt 25 (oF 31 0 1 0),gt 25 (oL 32 31 0),gt 25 (oX 33 .shr 30 32 0),gt 25 ⟨some 34,none,.bin .neq (.t 33) (.k (.i .u64 0)),0⟩,gf 21 (oQ 35 25 34 0),oP 36 21 35 0])
 (.ite (.t 36) (.seq (.reg false [oI 2 0 130])
 (.cut [2] [] .ret)) (.skip)))
 (.cut [] [] (.seq (.reg false [oI 2 0 0])
 (.cut [2] [] .ret))))⟩
theorem ok34 : okFn Tryd.prog 3 Tryd.f34 a34 = true := by kernel_rfl
def a35 : AFn := ⟨1,12,[.t 2],
    .seq (.reg false [oB 1 24 0 0,oU 2 0])
 (.seq (.reg false [oJ 6 3 1 0,oC 7 0 53 [.t 6] 0,oM 5 7 0,oE 8 5 0 0,oE 9 5 1 0,oM 3 8 0,oM 4 9 0])
 (.seq (.reg false [oM 10 4 0,oY 11 .eql 10 0 0,oM 2 11 0])
 (.cut [2] [] .ret)))⟩
theorem ok35 : okFn Tryd.prog 3 Tryd.f35 a35 = true := by kernel_rfl
def a37 : AFn := ⟨2,10,[.cell 4 (some 6)],
    .seq (.reg false [⟨some 4,none,.alloc true 40 [.i .i64 0,.i .i64 0,.sl none 0 (.ex 0),.i .i64 0,.i .i64 0,.i .i64 0],0⟩])
 (.seq (.reg false [oM 5 0 0,⟨some 6,none,.bslice 3 1 0 [] [],0⟩,oM 7 1 0,⟨some 8,none,.app 3 1 8 (.t 6) (.t 7),0⟩,⟨some 9,none,.build [.i .i64 0,.i .i64 0,.sl none 0 (.ex 0),.i .i64 0,.i .i64 0,.i .i64 0] [(0,1,.k (.i .i64 1)),(1,1,.t 5),(2,1,.t 8),(4,1,.k (.i .i64 (-1)))],0⟩,oS 6 4 9 0])
 (.cutg 3 [4] [4] .ret))⟩
theorem ok37 : okFn Tryd.prog 3 Tryd.f37 a37 = true := by kernel_rfl
def a38L0 : AC := .cutg 3 [1,4,8,10,12,13,14,15,71,72,76,77] [8,14] (.seq (.reg false [oX 78 .lss 77 76 0])
 (.seq (.ite (.t 78) (.skip) (.cutg 3 [1,4,8,10,12,13,14,71,72] [8,14] (.exit 2)))
 (.cutg 3 [1,4,8,10,12,13,14,15,71,72,76,77] [8,14] (.seq (.blk 3 (.seq (.reg false [oM 79 77 0,oM 16 79 0])
 (.seq (.reg false [oM 80 13 0,oM 81 15 0,oM 82 16 0,⟨some 83,none,.call 0 (.t 80) [.t 81,.t 82],0⟩,oM 84 12 0,⟨some 85,none,.pop (.fbin .sub) [.k (.f .f64 4607182418800017408),.t 84],0⟩,⟨some 86,none,.pop .mk [.t 85,.k (.f .f64 0)],0⟩,oC 87 0 59 [.t 83,.t 86] 0,oM 17 87 0])
 (.seq (.reg false [oM 88 12 0,⟨some 89,none,.pop .mk [.t 88,.k (.f .f64 0)],0⟩,oM 90 10 0,oM 91 13 0,oM 92 1 0,⟨some 93,none,.bin .shl (.k (.i .i64 1)) (.t 92),0⟩,oM 94 15 0,oM 95 16 0,⟨some 96,none,.call 0 (.t 90) [.t 91,.t 93,.t 94,.t 95],0⟩,oC 97 0 59 [.t 89,.t 96] 0,oM 18 97 0])
 (.reg true [oF 98 1 14 0,oL 99 98 1,oM 100 17 0,oM 101 18 0,oC 102 0 61 [.t 100,.t 101] 12,oC 103 0 60 [.t 102] 28,⟨some 104,none,.bslice 97 1 1 [.c .f64 0 0] [(0,1,.t 103)],60⟩,⟨some 105,none,.app 97 1 16 (.t 99) (.t 104),127⟩,oF 106 1 14 255,oS 1 106 105 511])))))
 (.cutg 3 [1,4,8,10,12,13,14,15,71,72,76,77] [8,14] (.reg false [oY 107 .add 77 0 1,oM 77 107 0]))))))
def a38L1 : AC := .cutg 3 [1,4,8,10,12,13,14,71,72] [8,14] (.seq (.reg false [oX 73 .lss 72 71 0])
 (.seq (.ite (.t 73) (.skip) (.cutg 3 [8,14] [8,14] (.exit 0)))
 (.cutg 3 [1,4,8,10,12,13,14,71,72] [8,14] (.seq (.blk 1 (.seq (.reg false [oM 74 72 0,oM 15 74 0])
 (.seq (.reg false [oF 75 0 4 0,oL 76 75 0,oI 77 0 0])
 (.blk 2 (.loop a38L0)))))
 (.cutg 3 [1,4,8,10,12,13,14,71,72] [8,14] (.reg false [oY 108 .add 72 0 1,oM 72 108 0]))))))
def a38 : AFn := ⟨4,110,[.cell 8 (some 2),.t 9],
    .seq (.reg false [⟨some 4,none,.box false 94 (.t 0),0⟩,⟨some 8,none,.alloc true 94 [.i .i64 0,.sl none 0 (.ex 0)],0⟩,oI 9 0 0])
 (.seq (.seq (.reg false [oJ 19 2 4 0,oC 20 0 55 [.t 19] 0,oY 21 .neq 20 0 0,oM 22 21 0,gf 22 ⟨some 23,none,.bslice 3 1 7 [.i .i64 0,.i .i64 0,.i .i64 0,.i .i64 0,.i .i64 0,.i .i64 0,.i .i64 0] [(0,1,.k (.i .i64 1)),(1,1,.k (.i .i64 2)),(2,1,.k (.i .i64 4)),(3,1,.k (.i .i64 8)),(4,1,.k (.i .i64 16)),(5,1,.k (.i .i64 32)),(6,1,.k (.i .i64 64))],0⟩,gf 22 (oF 24 0 4 0),gf 22 (oL 25 24 0),gf 22 (oC 26 0 56 [.t 23,.t 25] 0),gf 22 (oN 27 26 0),oP 28 22 27 0])
 (.ite (.t 28) (.seq (.reg false [⟨some 29,none,.build [.i .i64 0,.sl none 0 (.ex 0)] [],0⟩,oS 2 8 29 0,oI 9 0 70])
 (.cutg 3 [8,9] [8] .ret)) (.skip)))
 (.cutg 3 [1,2,3,4,8] [8] (.seq (.reg false [oC 31 0 57 [] 0,oM 32 2 0,⟨some 33,none,.mlk .i64 (.nilfn) (.t 31) (.t 32),0⟩,oM 30 33 0,oE 34 30 0 0,oE 35 30 1 0,oM 10 34 0,oM 11 35 0])
 (.seq (.seq (.reg true [oM 36 1 0,oY 37 .lss 36 1 0,oM 38 37 3,gf 38 (oM 39 1 7),gf 38 (oY 40 .gtr 39 15 6),oP 41 38 40 31,oM 42 41 63,gf 42 (oM 43 1 127),gf 42 ⟨some 44,none,.bin .shl (.k (.i .i64 1)) (.t 43),255⟩,gf 42 (oF 45 0 4 127),gf 42 (oL 46 45 639),gf 42 (oX 47 .geq 44 46 2047),oP 48 42 47 4095,oM 49 48 8191,gf 49 (oM 50 11 16383),gf 49 (oN 51 50 32767),oP 52 49 51 65535,oM 53 52 131071,gf 53 (oM 54 3 262143),gf 53 (oY 55 .lss 54 524287 0),oP 56 53 55 1048575,oM 57 56 2097151,gf 57 (oM 58 3 4194303),gf 57 (oY 59 .gtr 58 8388607 20),oP 60 57 59 16777215])
 (.ite (.t 60) (.seq (.reg false [⟨some 61,none,.build [.i .i64 0,.sl none 0 (.ex 0)] [],0⟩,oS 2 8 61 0,oI 9 0 240])
 (.cutg 3 [8,9] [8] .ret)) (.skip)))
 (.cutg 3 [1,3,4,8,10] [8] (.seq (.reg false [oM 62 3 0,⟨some 63,none,.bin .shl (.k (.i .i64 1)) (.t 62),0⟩,⟨some 64,none,.pop .ofi [.t 63],0⟩,⟨some 65,none,.pop (.fbin .quo) [.k (.f .f64 4607182418800017408),.t 64],0⟩,oM 12 65 0])
 (.seq (.reg false [⟨some 66,none,.mkf (.func 58) [] [.t 4],0⟩,oM 13 66 0])
 (.seq (.reg false [oF 67 0 4 0,oL 68 67 0,⟨some 69,none,.build [.i .i64 0,.sl none 0 (.ex 0)] [(0,1,.t 68)],0⟩,⟨some 14,none,.alloc true 94 [.i .i64 0,.sl none 0 (.ex 0)],0⟩,oS 2 14 69 0])
 (.seq (.seq (.reg false [oF 70 0 4 0,oL 71 70 0,oI 72 0 0])
 (.blk 0 (.loop a38L1)))
 (.cutg 3 [8,14] [8,14] (.seq (.reg false [oJ 109 2 14 0,oS 2 8 109 0,oI 9 0 0])
 (.cutg 3 [8,9] [8] .ret))))))))))))⟩
theorem ok38 : okFn Tryd.prog 3 Tryd.f38 a38 = true := by kernel_rfl
def a39 : AFn := ⟨2,16,[.t 4,.t 5],
    .seq (.reg false [⟨some 4,none,.mv (.k (.i .u64 0)),0⟩,⟨some 5,none,.mv (.k (.i .u64 0)),0⟩])
 (.seq (.blk 0 (.seq (.reg false [oM 7 0 0,⟨some 8,none,.pop (.fbin .mul) [.t 7,.k (.f .f64 4613937818241073152)],0⟩,oM 9 1 0,⟨some 10,none,.pop (.fcmp .lss) [.t 8,.t 9],0⟩,oM 6 10 0])
 (.ite (.t 6) (.seq (.reg false [⟨some 4,none,.mv (.k (.i .u64 1)),0⟩,⟨some 5,none,.mv (.k (.i .u64 0)),0⟩])
 (.cut [4,5] [] .ret)) (.seq (.reg false [oM 12 0 0,⟨some 13,none,.pop (.fbin .mul) [.t 12,.k (.f .f64 4609434218613702656)],0⟩,oM 14 1 0,⟨some 15,none,.pop (.fcmp .lss) [.t 13,.t 14],0⟩,oM 11 15 0])
 (.ite (.t 11) (.seq (.reg false [⟨some 4,none,.mv (.k (.i .u64 0)),0⟩,⟨some 5,none,.mv (.k (.i .u64 1)),0⟩])
 (.cut [4,5] [] .ret)) (.skip))))))
 (.cut [] [] (.seq (.reg false [⟨some 4,none,.mv (.k (.i .u64 1)),0⟩,⟨some 5,none,.mv (.k (.i .u64 1)),0⟩])
 (.cut [4,5] [] .ret))))⟩
theorem ok39 : okFn Tryd.prog 3 Tryd.f39 a39 = true := by kernel_rfl
def a41L0 : AC := .cut [0,1,2] [] (.seq (.seq (.reg false [oL 4 1 0,oG 5 4 0,oY 6 .gtr 5 0 0,oM 7 6 0,gt 7 (oL 8 1 0),gt 7 ⟨some 9,none,.iadr 5 (.t 8) (.k (.i .i64 0)),0⟩,gt 7 (oF 10 0 9 0),gt 7 (oL 11 10 0),gt 7 (oM 12 0 0),gt 7 (oX 13 .eql 11 12 0),oQ 14 7 13 0])
 (.ite (.t 14) (.skip) (.cut [] [] (.exit 0))))
 (.cut [0,1,2] [] (.blk 1 (.seq (.reg true [oL 15 2 0,oL 16 1 0,⟨some 17,none,.iadr 5 (.t 16) (.k (.i .i64 0)),2⟩,oF 18 1 17 6,oF 19 1 18 14,oL 20 19 30,oL 21 1 0,⟨some 22,none,.iadr 5 (.t 21) (.k (.i .i64 0)),64⟩,oF 23 1 22 192,oF 24 2 23 448,oL 25 24 960,oC 26 2 42 [.t 15,.t 20,.t 25] 2047])
 (.reg false [oL 27 1 0,⟨some 28,none,.slc 5 (.t 27) (some (.k (.i .i64 1))) none none,0⟩,oS 1 1 28 0])))))
def a41 : AFn := ⟨3,29,[],
    .blk 0 (.loop a41L0)⟩
theorem ok41 : okFn Tryd.prog 3 Tryd.f41 a41 = true := by kernel_rfl
def a42 : AFn := ⟨3,30,[],
    .seq (.reg false [oM 6 0 0,⟨some 7,none,.nchk (.t 6),0⟩,oF 8 0 7 0,oF 9 0 8 0,oF 10 1 9 0,oL 11 10 0,oM 12 1 0,oX 13 .xor 11 12 0,⟨some 14,none,.nchk (.t 6),0⟩,oF 15 0 14 0,oF 16 0 15 0,oF 17 1 16 0,oS 1 17 13 0])
 (.reg false [oM 18 0 0,⟨some 19,none,.nchk (.t 18),0⟩,oF 20 0 19 0,oF 21 0 20 0,oF 22 2 21 0,oL 23 22 0,oM 24 2 0,oX 25 .xor 23 24 0,⟨some 26,none,.nchk (.t 18),0⟩,oF 27 0 26 0,oF 28 0 27 0,oF 29 2 28 0,oS 1 29 25 0])⟩
theorem ok42 : okFn Tryd.prog 3 Tryd.f42 a42 = true := by kernel_rfl
def a43 : AFn := ⟨2,144,[.t 4],
    .seq (.reg false [oB 3 40 1 0,oI 4 0 0])
 (.seq (.seq (.reg false [oF 9 0 3 0,oL 10 9 0])
 (.blk 0 (.seq (.reg false [oY 12 .eql 10 0 1,oM 11 12 0])
 (.ite (.t 11) (.seq (.seq (.reg false [oF 13 4 3 0,oL 14 13 0,oY 15 .geq 14 0 0])
 (.ite (.t 15) (.seq (.seq (.reg false [oF 16 1 3 0,oL 17 16 0,oY 18 .gtr 17 0 4])
 (.ite (.t 18) (.seq (.reg false [oI 4 0 241])
 (.cut [4] [] .ret)) (.skip)))
 (.cut [0,3] [3] (.seq (.seq (.reg true [oM 19 0 0,⟨some 20,none,.nchk (.t 19),1⟩,oF 21 0 20 3,oF 22 4 21 7,oL 23 22 15,oF 24 4 3 0,oL 25 24 32,oA 26 1 23 25 127,oL 27 26 255])
 (.ite (.t 27) (.seq (.reg false [oF 28 2 3 0,oL 29 28 0,⟨some 30,none,.iadr 1 (.t 29) (.k (.i .i64 0)),0⟩,oL 31 30 0,⟨some 32,none,.bin .shl (.k (.i .u64 1)) (.t 31),0⟩,oM 5 32 0])
 (.seq (.reg false [⟨some 33,none,.build [.i .u64 0,.i .u64 0] [],0⟩,oM 34 5 0,⟨some 35,none,.build [.i .u64 0,.i .u64 0] [(0,1,.t 34),(1,1,.k (.i .u64 0))],0⟩,oM 36 5 0,oM 37 5 0,⟨some 38,none,.build [.i .u64 0,.i .u64 0] [(0,1,.t 36),(1,1,.t 37)],0⟩,oM 39 5 0,⟨some 40,none,.build [.i .u64 0,.i .u64 0] [(0,1,.k (.i .u64 0)),(1,1,.t 39)],0⟩,⟨some 41,none,.build [.i .u64 0,.i .u64 0,.i .u64 0,.i .u64 0,.i .u64 0,.i .u64 0,.i .u64 0,.i .u64 0,.i .u64 0,.i .u64 0] [(2,2,.t 33),(4,2,.t 35),(6,2,.t 38),(8,2,.t 40)],0⟩,oF 42 1 3 0,oL 43 42 0,⟨some 44,none,.idx 2 true 5 (.t 41) (.t 43),0⟩,⟨some 6,none,.alloc true 114 [.i .u64 0,.i .u64 0],0⟩,oS 2 6 44 0])
 (.reg false [oM 45 0 0,⟨some 46,none,.iadra 1 2 (.t 6) (.k (.i .i64 0)),0⟩,oL 47 46 0,⟨some 48,none,.iadra 1 2 (.t 6) (.k (.i .i64 1)),0⟩,oL 49 48 0,oC 50 2 42 [.t 45,.t 47,.t 49] 0]))) (.skip)))
 (.cut [] [] (.seq (.reg false [oI 4 0 0])
 (.cut [4] [] .ret)))))) (.skip)))
 (.cut [0,3] [3] (.seq (.seq (.reg false [oF 51 1 3 0,oL 52 51 0,oC 53 0 63 [.t 52] 0,oN 54 53 0])
 (.ite (.t 54) (.seq (.reg false [oI 4 0 241])
 (.cut [4] [] .ret)) (.skip)))
 (.cut [0,3] [3] (.seq (.reg true [oM 56 0 0,oM 57 0 0,⟨some 58,none,.nchk (.t 57),2⟩,oF 59 0 58 6,oF 60 0 59 14,oJ 61 4 60 30,oF 62 1 3 0,oL 63 62 64,oF 64 2 3 0,oL 65 64 256,oC 66 0 64 [.t 61,.t 63,.t 65] 1022,oM 55 66 2046,oE 67 55 0 4094,oE 68 55 1 4094,⟨some 69,none,.nchk (.t 56),8191⟩,oF 70 0 69 24575,oF 71 0 70 57343,oS 4 71 67 122879])
 (.reg false [oM 72 0 0,⟨some 73,none,.nchk (.t 72),0⟩,oF 74 0 73 0,oF 75 0 74 0,oF 76 3 75 0,⟨none,none,.store 1 (.t 76) (.k (.i .i64 0)),0⟩])))))) (.seq (.seq (.reg false [oY 78 .eql 10 0 2,oM 77 78 0])
 (.ite (.t 77) (.skip) (.reg false [oY 79 .eql 10 0 3,oM 77 79 0])))
 (.cut [0,3,77] [3] (.ite (.t 77) (.seq (.reg false [oF 80 2 3 0,oL 81 80 0,⟨some 82,none,.iadr 1 (.t 81) (.k (.i .i64 0)),0⟩,oL 83 82 0,oM 7 83 0])
 (.seq (.reg false [oM 84 0 0,⟨some 85,none,.nchk (.t 84),0⟩,oF 86 0 85 0,oF 87 0 86 0,oF 88 1 87 0,oL 89 88 0,oM 90 7 0,oX 91 .shr 89 90 0,⟨some 92,none,.bin .and (.t 91) (.k (.i .u64 1)),0⟩,⟨some 93,none,.bin .eql (.t 92) (.k (.i .u64 1)),0⟩,oM 8 93 0])
 (.seq (.reg false [oM 94 0 0,oM 95 0 0,⟨some 96,none,.nchk (.t 95),0⟩,oF 97 0 96 0,oF 98 5 97 0,oL 99 98 0,oM 100 8 0,⟨some 101,none,.bslice 4 1 1 [.b false] [(0,1,.t 100)],0⟩,⟨some 102,none,.app 4 1 1 (.t 99) (.t 101),0⟩,⟨some 103,none,.nchk (.t 94),0⟩,oF 104 0 103 0,oF 105 5 104 0,oS 1 105 102 0])
 (.seq (.reg false [oF 106 0 3 0,oL 107 106 0,oY 108 .eql 107 0 2])
 (.ite (.t 108) (.reg true [oM 109 0 0,⟨some 110,none,.nchk (.t 109),1⟩,oF 111 0 110 3,oF 112 4 111 7,oL 113 112 15,oF 114 3 3 0,oL 115 114 32,oM 116 8 0,oA 117 1 113 115 255,oS 1 117 116 511]) (.seq (.reg true [oM 118 0 0,⟨some 119,none,.nchk (.t 118),1⟩,oF 120 0 119 3,oF 121 0 120 7,oF 122 1 121 15,oL 123 122 31,oM 124 7 0,⟨some 125,none,.bin .shl (.k (.i .u64 1)) (.t 124),64⟩,oX 126 .andNot 123 125 255,⟨some 127,none,.nchk (.t 118),511⟩,oF 128 0 127 1023,oF 129 0 128 2047,oF 130 1 129 4095,oS 1 130 126 8191])
 (.reg true [oM 131 0 0,⟨some 132,none,.nchk (.t 131),1⟩,oF 133 0 132 3,oF 134 0 133 7,oF 135 2 134 15,oL 136 135 31,oM 137 7 0,⟨some 138,none,.bin .shl (.k (.i .u64 1)) (.t 137),64⟩,oX 139 .andNot 136 138 255,⟨some 140,none,.nchk (.t 131),511⟩,oF 141 0 140 1023,oF 142 0 141 2047,oF 143 2 142 4095,oS 1 143 139 8191]))))))) (.skip))))))))
 (.cut [] [] (.seq (.reg false [oI 4 0 0])
 (.cut [4] [] .ret))))⟩
theorem ok43 : okFn Tryd.prog 3 Tryd.f43 a43 = true := by kernel_rfl
def a49 : AFn := ⟨1,8,[.t 2],
    .seq (.reg false [⟨some 2,none,.mv (.k (.sl none 0 (.ex 0))),0⟩])
 (.seq (.seq (.reg false [oM 3 0 0,⟨some 4,none,.eqnil false (.t 3),0⟩])
 (.ite (.t 4) (.seq (.reg false [⟨some 2,none,.mv (.k (.sl none 0 (.ex 0))),0⟩])
 (.cutg 3 [2] [] .ret)) (.skip)))
 (.cutg 3 [0] [] (.seq (.reg false [⟨some 5,none,.bslice 3 1 0 [] [],0⟩,oM 6 0 0,⟨some 7,none,.app 3 1 8 (.t 5) (.t 6),0⟩,oM 2 7 0])
 (.cutg 3 [2] [] .ret))))⟩
theorem ok49 : okFn Tryd.prog 3 Tryd.f49 a49 = true := by kernel_rfl
def a50 : AFn := ⟨2,22,[.t 4],
    .seq (.reg false [oB 2 51 0 0,⟨some 4,none,.mv (.k (.i .u8 0)),0⟩])
 (.seq (.seq (.reg false [oJ 5 4 2 0,oC 6 0 69 [.t 5] 0,oN 7 6 0,oM 8 7 0,gf 8 (oM 9 1 0),gf 8 (oY 10 .lss 9 0 0),oP 11 8 10 0,oM 12 11 0,gf 12 (oM 13 1 0),gf 12 (oF 14 0 2 0),gf 12 (oL 15 14 0),gf 12 (oX 16 .geq 13 15 0),oP 17 12 16 0])
 (.ite (.t 17) (.seq (.reg false [⟨some 4,none,.mv (.k (.i .u8 0)),0⟩])
 (.cut [4] [] .ret)) (.skip)))
 (.cut [1,2] [2] (.seq (.reg false [oJ 18 4 2 0,oM 19 1 0,oC 20 0 70 [.t 18,.t 19] 0,⟨some 21,none,.idxs (.k (.s ⟨#[73,88,89,90]⟩)) (.t 20),0⟩,oM 4 21 0])
 (.cut [4] [] .ret))))⟩
theorem ok50 : okFn Tryd.prog 3 Tryd.f50 a50 = true := by kernel_rfl
def a52L0 : AC := .cut [1,2,3,79,80,81] [3] (.seq (.reg false [oX 82 .lss 81 80 0])
 (.seq (.ite (.t 82) (.skip) (.cut [2,3] [3] (.exit 0)))
 (.cut [1,2,3,79,80,81] [3] (.seq (.blk 1 (.seq (.reg false [oM 83 81 0,oA 84 1 79 81 0,oL 85 84 0,oM 9 83 0,oM 10 85 0])
 (.seq (.reg false [oM 86 10 0,oY 87 .lss 86 0 0,oM 88 87 0,gf 88 (oM 89 10 0),gf 88 (oM 90 1 0),gf 88 (oX 91 .geq 89 90 0),oP 92 88 91 0,oM 93 92 0,gf 93 (oF 94 2 3 0),gf 93 (oL 95 94 0),gf 93 (oM 96 9 0),gf 93 ⟨some 97,none,.slc 1 (.t 95) none (some (.t 96)) none,0⟩,gf 93 (oM 98 10 0),gf 93 (oC 99 0 56 [.t 97,.t 98] 0),oP 100 93 99 0])
 (.ite (.t 100) (.seq (.reg false [oU 6 0])
 (.cut [6] [] .ret)) (.skip)))))
 (.cut [1,2,3,79,80,81] [3] (.reg false [oY 101 .add 81 0 1,oM 81 101 0]))))))
def a52 : AFn := ⟨3,137,[.t 6],
    .seq (.reg false [oB 3 40 0 0,oU 6 0])
 (.seq (.seq (.reg false [oF 11 0 3 0,oL 12 11 0,oY 13 .eql 12 0 1])
 (.ite (.t 13) (.seq (.reg false [oF 14 4 3 0,oL 15 14 0,oY 16 .eql 15 0 (-1),oM 17 16 0,gt 17 (oF 18 5 3 0),gt 17 (oL 19 18 0),gt 17 (oY 20 .eql 19 0 0),oQ 21 17 20 0,oM 7 21 0])
 (.seq (.reg false [oF 22 4 3 0,oL 23 22 0,oY 24 .geq 23 0 0,oM 25 24 0,gt 25 (oF 26 4 3 0),gt 25 (oL 27 26 0),gt 25 (oM 28 2 0),gt 25 (oX 29 .lss 27 28 0),oQ 30 25 29 0,oM 31 30 0,gt 31 (oF 32 5 3 0),gt 31 (oL 33 32 0),gt 31 (oY 34 .eql 33 0 0),gt 31 (oM 35 34 0),gf 35 (oF 36 5 3 0),gf 35 (oL 37 36 0),gf 35 (oY 38 .eql 37 0 1),gt 31 (oP 39 35 38 0),oQ 40 31 39 0,oM 8 40 0])
 (.seq (.reg false [oF 41 1 3 0,oL 42 41 0,oF 43 2 3 0,oL 44 43 0,oM 45 1 0,oC 46 0 71 [.t 42,.t 44,.t 45] 0,oY 47 .eql 46 0 0,oM 48 47 0,gt 48 (oF 49 3 3 0),gt 48 (oL 50 49 0),gt 48 (oY 51 .eql 50 0 0),oQ 52 48 51 0,oM 53 52 0,gt 53 (oM 54 7 0),gt 53 (oM 55 54 0),gf 55 (oM 56 8 0),gt 53 (oP 57 55 56 0),oQ 58 53 57 0,oM 6 58 0])
 (.cut [6] [] .ret)))) (.skip)))
 (.cut [1,2,3] [3] (.seq (.seq (.reg false [oF 59 1 3 0,oL 60 59 0,oY 61 .neq 60 0 0,oM 62 61 0,gf 62 (oF 63 4 3 0),gf 62 (oL 64 63 0),gf 62 (oY 65 .neq 64 0 (-1)),oP 66 62 65 0,oM 67 66 0,gf 67 (oF 68 5 3 0),gf 67 (oL 69 68 0),gf 67 (oY 70 .neq 69 0 0),oP 71 67 70 0,oM 72 71 0,gf 72 (oF 73 2 3 0),gf 72 (oL 74 73 0),gf 72 (oG 75 74 0),gf 72 (oY 76 .eql 75 0 0),oP 77 72 76 0])
 (.ite (.t 77) (.seq (.reg false [oU 6 0])
 (.cut [6] [] .ret)) (.skip)))
 (.cut [1,2,3] [3] (.seq (.seq (.reg false [oF 78 2 3 0,oL 79 78 0,oG 80 79 0,oI 81 0 0])
 (.blk 0 (.loop a52L0)))
 (.cut [2,3] [3] (.seq (.seq (.reg false [oF 102 0 3 0,oL 103 102 0])
 (.blk 2 (.seq (.reg false [oY 105 .eql 103 0 2,oM 104 105 0])
 (.ite (.t 104) (.seq (.reg false [oF 106 2 3 0,oL 107 106 0,oG 108 107 0,oY 109 .eql 108 0 1,oM 110 109 0,gt 110 (oF 111 3 3 0),gt 110 (oL 112 111 0),gt 110 (oY 113 .geq 112 0 0),oQ 114 110 113 0,oM 115 114 0,gt 115 (oF 116 3 3 0),gt 115 (oL 117 116 0),gt 115 (oM 118 2 0),gt 115 (oX 119 .lss 117 118 0),oQ 120 115 119 0,oM 6 120 0])
 (.cut [6] [] .ret)) (.seq (.reg false [oY 122 .eql 103 0 3,oM 121 122 0])
 (.ite (.t 121) (.seq (.reg false [oF 123 2 3 0,oL 124 123 0,oG 125 124 0,oY 126 .eql 125 0 1,oM 127 126 0,gt 127 (oF 128 3 3 0),gt 127 (oL 129 128 0),gt 127 (oY 130 .eql 129 0 0),oQ 131 127 130 0,oM 6 131 0])
 (.cut [6] [] .ret)) (.seq (.reg false [oY 133 .eql 103 0 4,oM 132 133 0])
 (.ite (.t 132) (.seq (.reg false [oF 134 3 3 0,oL 135 134 0,oY 136 .eql 135 0 0,oM 6 136 0])
 (.cut [6] [] .ret)) (.skip)))))))))
 (.cut [] [] (.seq (.reg false [oU 6 0])
 (.cut [6] [] .ret))))))))))⟩
theorem ok52 : okFn Tryd.prog 3 Tryd.f52 a52 = true := by kernel_rfl
def a53L0 : AC := .cut [1,4] [1] (.seq (.seq (.reg false [oM 29 4 0,oF 30 2 1 0,oL 31 30 0,oG 32 31 0,oX 33 .lss 29 32 0])
 (.ite (.t 33) (.skip) (.cut [] [] (.exit 0))))
 (.cut [1,4] [1] (.seq (.blk 1 (.seq (.reg true [oF 36 2 1 0,oL 37 36 1,oM 38 4 0,oA 39 6 37 38 7,oJ 40 6 39 15,oF 41 0 1 0,oL 42 41 32,oF 43 1 1 0,oL 44 43 128,oC 45 0 72 [.t 40,.t 42,.t 44] 511,oN 46 45 1023])
 (.ite (.t 46) (.seq (.reg false [oM 47 4 0,oM 2 47 0,oI 3 0 80])
 (.cut [2,3] [] .ret)) (.skip))))
 (.cut [1,4] [1] (.reg false [oM 34 4 0,oY 35 .add 34 0 1,oM 4 35 0])))))
def a53 : AFn := ⟨1,48,[.t 2,.t 3],
    .seq (.reg false [oB 1 24 0 0,oI 2 0 0,oI 3 0 0])
 (.seq (.seq (.reg false [oF 5 0 1 0,oL 6 5 0,oY 7 .lss 6 0 0,oM 8 7 0,gf 8 (oF 9 0 1 0),gf 8 (oL 10 9 0),gf 8 (oY 11 .gtr 10 0 64),oP 12 8 11 0,oM 13 12 0,gf 13 (oF 14 1 1 0),gf 13 (oL 15 14 0),gf 13 (oY 16 .lss 15 0 0),oP 17 13 16 0,oM 18 17 0,gf 18 (oF 19 1 1 0),gf 18 (oL 20 19 0),gf 18 (oY 21 .gtr 20 0 64),oP 22 18 21 0,oM 23 22 0,gf 23 (oF 24 2 1 0),gf 23 (oL 25 24 0),gf 23 (oG 26 25 0),gf 23 (oY 27 .gtr 26 0 4096),oP 28 23 27 0])
 (.ite (.t 28) (.seq (.reg false [oI 2 0 (-1),oI 3 0 80])
 (.cut [2,3] [] .ret)) (.skip)))
 (.cut [1] [1] (.seq (.seq (.reg false [oI 4 0 0])
 (.blk 0 (.loop a53L0)))
 (.cut [] [] (.seq (.reg false [oI 2 0 0,oI 3 0 0])
 (.cut [2,3] [] .ret))))))⟩
theorem ok53 : okFn Tryd.prog 3 Tryd.f53 a53 = true := by kernel_rfl
def a55 : AFn := ⟨1,22,[.t 2],
    .seq (.reg false [oB 1 94 0 0,oI 2 0 0])
 (.seq (.seq (.reg false [oF 3 0 1 0,oL 4 3 0,oY 5 .lss 4 0 1,oM 6 5 0,gf 6 (oF 7 0 1 0),gf 6 (oL 8 7 0),gf 6 (oY 9 .gtr 8 0 64),oP 10 6 9 0,oM 11 10 0,gf 11 (oF 12 1 1 0),gf 11 (oL 13 12 0),gf 11 (oG 14 13 0),gf 11 (oF 15 0 1 0),gf 11 (oL 16 15 0),gf 11 (oF 17 0 1 0),gf 11 (oL 18 17 0),gf 11 (oX 19 .mul 16 18 0),gf 11 (oX 20 .neq 14 19 0),oP 21 11 20 0])
 (.ite (.t 21) (.seq (.reg false [oI 2 0 70])
 (.cut [2] [] .ret)) (.skip)))
 (.cut [] [] (.seq (.reg false [oI 2 0 0])
 (.cut [2] [] .ret))))⟩
theorem ok55 : okFn Tryd.prog 3 Tryd.f55 a55 = true := by kernel_rfl
def a56 : AFn := ⟨2,9,[.t 4],
    .seq (.reg false [oU 4 0])
 (.seq (.reg false [oM 5 0 0,oM 6 1 0,oC 7 0 73 [.t 5,.t 6] 0,oY 8 .geq 7 0 0,oM 4 8 0])
 (.cut [4] [] .ret))⟩
theorem ok56 : okFn Tryd.prog 3 Tryd.f56 a56 = true := by kernel_rfl
-- a57 phasor/noise.channels: BAD ('value',('app',('id','Value.map'),[('id','none')]))
def a58 : AFn := ⟨3,16,[.t 5],
    .seq (.reg false [⟨some 5,none,.mv (.k (.c .f64 0 0)),0⟩])
 (.seq (.reg false [oF 6 1 2 0,oL 7 6 0,oF 8 0 2 0,oL 9 8 0,oM 10 0 0,oX 11 .mul 9 10 0,oM 12 1 0,oX 13 .add 11 12 0,oA 14 1 7 13 0,oL 15 14 0,oM 5 15 0])
 (.cut [5] [] .ret))⟩
theorem ok58 : okFn Tryd.prog 3 Tryd.f58 a58 = true := by kernel_rfl
def a59 : AFn := ⟨2,28,[.t 4],
    .seq (.reg false [⟨some 4,none,.mv (.k (.c .f64 0 0)),0⟩])
 (.seq (.reg false [oM 5 0 0,⟨some 6,none,.pop .re [.t 5],0⟩,oM 7 1 0,⟨some 8,none,.pop .re [.t 7],0⟩,⟨some 9,none,.pop (.fbin .mul) [.t 6,.t 8],0⟩,oM 10 0 0,⟨some 11,none,.pop .im [.t 10],0⟩,oM 12 1 0,⟨some 13,none,.pop .im [.t 12],0⟩,⟨some 14,none,.pop (.fbin .mul) [.t 11,.t 13],0⟩,⟨some 15,none,.pop (.fbin .sub) [.t 9,.t 14],0⟩,oM 16 0 0,⟨some 17,none,.pop .re [.t 16],0⟩,oM 18 1 0,⟨some 19,none,.pop .im [.t 18],0⟩,⟨some 20,none,.pop (.fbin .mul) [.t 17,.t 19],0⟩,oM 21 0 0,⟨some 22,none,.pop .im [.t 21],0⟩,oM 23 1 0,⟨some 24,none,.pop .re [.t 23],0⟩,⟨some 25,none,.pop (.fbin .mul) [.t 22,.t 24],0⟩,⟨some 26,none,.pop (.fbin .add) [.t 20,.t 25],0⟩,⟨some 27,none,.pop .mk [.t 15,.t 26],0⟩,oM 4 27 0])
 (.cut [4] [] .ret))⟩
theorem ok59 : okFn Tryd.prog 3 Tryd.f59 a59 = true := by kernel_rfl
def a60 : AFn := ⟨1,5,[.t 2],
    .seq (.reg false [⟨some 2,none,.mv (.k (.c .f64 0 0)),0⟩])
 (.seq (.reg false [oM 3 0 0,⟨some 4,none,.call 0 (.k (.fn (.func 83) [] [])) [.t 3,.k (.fn (.func 84) [] [])],0⟩,oM 2 4 0])
 (.cut [2] [] .ret))⟩
theorem ok60 : okFn Tryd.prog 3 Tryd.f60 a60 = true := by kernel_rfl
def a61 : AFn := ⟨2,16,[.t 4],
    .seq (.reg false [⟨some 4,none,.mv (.k (.c .f64 0 0)),0⟩])
 (.seq (.reg false [oM 5 0 0,⟨some 6,none,.pop .re [.t 5],0⟩,oM 7 1 0,⟨some 8,none,.pop .re [.t 7],0⟩,⟨some 9,none,.pop (.fbin .add) [.t 6,.t 8],0⟩,oM 10 0 0,⟨some 11,none,.pop .im [.t 10],0⟩,oM 12 1 0,⟨some 13,none,.pop .im [.t 12],0⟩,⟨some 14,none,.pop (.fbin .add) [.t 11,.t 13],0⟩,⟨some 15,none,.pop .mk [.t 9,.t 14],0⟩,oM 4 15 0])
 (.cut [4] [] .ret))⟩
theorem ok61 : okFn Tryd.prog 3 Tryd.f61 a61 = true := by kernel_rfl
def a63 : AFn := ⟨1,9,[.t 2],
    .seq (.reg false [oU 2 0])
 (.seq (.reg false [oM 3 0 0,oY 4 .geq 3 0 1,oM 5 4 0,gt 5 (oM 6 0 0),gt 5 (oY 7 .leq 6 0 17),oQ 8 5 7 0,oM 2 8 0])
 (.cut [2] [] .ret))⟩
theorem ok63 : okFn Tryd.prog 3 Tryd.f63 a63 = true := by kernel_rfl
def a64L0 : AC := .cut [1,2,3,6,8,33,34,35] [3,6,8] (.seq (.reg false [oX 36 .lss 35 34 0])
 (.seq (.ite (.t 36) (.skip) (.cut [1,2,3,6,8] [3,6,8] (.exit 0)))
 (.cut [1,2,3,6,8,33,34,35] [3,6,8] (.seq (.blk 1 (.seq (.reg false [oA 37 1 33 35 0,oL 38 37 0,oM 10 38 0])
 (.seq (.reg true [oF 39 1 8 0,oL 40 39 1,oM 41 10 0,⟨some 42,none,.bin .shl (.k (.i .u64 1)) (.t 41),4⟩,oX 43 .andNot 40 42 15,oF 44 1 8 31,oS 1 44 43 63])
 (.reg true [oF 45 2 8 0,oL 46 45 1,oM 47 10 0,⟨some 48,none,.bin .shl (.k (.i .u64 1)) (.t 47),4⟩,oX 49 .andNot 46 48 15,oF 50 2 8 31,oS 1 50 49 63]))))
 (.cut [1,2,3,6,8,33,34,35] [3,6,8] (.reg false [oY 51 .add 35 0 1,oM 35 51 0]))))))
def a64L1 : AC := .cut [2,3,6,8,11,54,55,56] [3,6,8] (.seq (.reg false [oX 57 .lss 56 55 0])
 (.seq (.ite (.t 57) (.skip) (.cut [6,8] [6,8] (.exit 2)))
 (.cut [2,3,6,8,11,54,55,56] [3,6,8] (.seq (.blk 3 (.seq (.reg false [oM 58 56 0,oA 59 1 54 56 0,oL 60 59 0,oM 12 58 0,oM 13 60 0])
 (.seq (.reg false [oJ 61 4 3 0,oM 62 13 0,oC 63 0 70 [.t 61,.t 62] 0,oM 14 63 0])
 (.seq (.seq (.reg false [oM 64 14 0,oY 65 .eql 64 0 2])
 (.ite (.t 65) (.reg false [oF 66 3 8 0,oL 67 66 0,oY 68 .add 67 0 1,oY 69 .rem 68 0 4,oF 70 3 8 0,oS 1 70 69 0]) (.skip)))
 (.cut [2,3,6,8,11,12,14,54,55,56] [3,6,8] (.seq (.seq (.reg false [oM 71 14 0,oY 72 .eql 71 0 1,oM 73 72 0,gf 73 (oM 74 14 0),gf 73 (oY 75 .eql 74 0 2),oP 76 73 75 0])
 (.ite (.t 76) (.reg true [oJ 77 4 8 0,oM 78 11 0,oM 79 12 0,⟨some 80,none,.bin .mul (.k (.i .i64 2)) (.t 79),4⟩,oA 81 1 78 80 14,oL 82 81 30,oF 83 0 3 0,oL 84 83 64,oM 85 2 0,oC 86 0 87 [.t 82,.t 84,.t 85] 510,oC 87 0 86 [.t 77,.t 86] 1023,oS 4 8 87 2047]) (.skip)))
 (.cut [2,3,6,8,11,12,14,54,55,56] [3,6,8] (.seq (.reg false [oM 88 14 0,oY 89 .geq 88 0 2])
 (.ite (.t 89) (.reg true [oJ 90 4 8 0,oM 91 11 0,oM 92 12 0,⟨some 93,none,.bin .mul (.k (.i .i64 2)) (.t 92),4⟩,oY 94 .add 93 12 1,oA 95 1 91 94 30,oL 96 95 62,oF 97 0 3 0,oL 98 97 128,oM 99 2 0,oC 100 0 87 [.t 96,.t 98,.t 99] 1022,oC 101 0 86 [.t 90,.t 100] 2047,oS 4 8 101 4095]) (.skip))))))))))
 (.cut [2,3,6,8,11,54,55,56] [3,6,8] (.reg false [oY 102 .add 56 0 1,oM 56 102 0]))))))
def a64 : AFn := ⟨3,104,[.cell 6 (some 4),.t 7],
    .seq (.reg false [oB 3 51 0 0,⟨some 6,none,.alloc true 51 [.i .i64 0,.i .u64 0,.i .u64 0,.i .i64 0],0⟩,oI 7 0 0])
 (.seq (.seq (.reg false [oJ 15 4 3 0,oC 16 0 69 [.t 15] 0,oN 17 16 0,oM 18 17 0,gf 18 (oM 19 1 0),gf 18 (oC 20 0 63 [.t 19] 0),gf 18 (oN 21 20 0),oP 22 18 21 0,oM 23 22 0,gf 23 (oM 24 1 0),gf 23 (oM 25 2 0),gf 23 (oF 26 0 3 0),gf 23 (oL 27 26 0),gf 23 (oC 28 0 71 [.t 24,.t 25,.t 27] 0),gf 23 (oY 29 .neq 28 0 0),oP 30 23 29 0])
 (.ite (.t 30) (.seq (.reg false [⟨some 31,none,.build [.i .i64 0,.i .u64 0,.i .u64 0,.i .i64 0] [],0⟩,oS 4 6 31 0,oI 7 0 130])
 (.cut [6,7] [6] .ret)) (.skip)))
 (.cut [1,2,3,6] [3,6] (.seq (.reg false [oJ 32 4 3 0,⟨some 8,none,.alloc true 51 [.i .i64 0,.i .u64 0,.i .u64 0,.i .i64 0],0⟩,oS 4 8 32 0])
 (.seq (.seq (.reg false [oM 33 2 0,oG 34 33 0,oI 35 0 0])
 (.blk 0 (.loop a64L0)))
 (.cut [1,2,3,6,8] [3,6,8] (.seq (.reg false [oM 52 1 0,oC 53 0 85 [.t 52] 0,oM 11 53 0])
 (.seq (.seq (.reg false [oM 54 2 0,oG 55 54 0,oI 56 0 0])
 (.blk 2 (.loop a64L1)))
 (.cut [6,8] [6,8] (.seq (.reg false [oJ 103 4 8 0,oS 4 6 103 0,oI 7 0 0])
 (.cut [6,7] [6] .ret))))))))))⟩
theorem ok64 : okFn Tryd.prog 3 Tryd.f64 a64 = true := by kernel_rfl
def a69 : AFn := ⟨1,6,[.t 2],
    .seq (.reg false [oB 1 51 0 0,oU 2 0])
 (.seq (.reg false [oJ 3 4 1 0,oC 4 0 34 [.t 3] 0,oY 5 .eql 4 0 0,oM 2 5 0])
 (.cut [2] [] .ret))⟩
theorem ok69 : okFn Tryd.prog 3 Tryd.f69 a69 = true := by kernel_rfl
def a70 : AFn := ⟨2,23,[.t 4],
    .seq (.reg false [oB 2 51 0 0,oI 4 0 0])
 (.seq (.reg true [oF 7 1 2 0,oL 8 7 1,oM 9 1 0,oX 10 .shr 8 9 7,⟨some 11,none,.bin .and (.t 10) (.k (.i .u64 1)),15⟩,⟨some 12,none,.conv .i64 (.t 11),31⟩,oF 13 2 2 0,oL 14 13 64,oM 15 1 0,oX 16 .shr 14 15 448,⟨some 17,none,.bin .and (.t 16) (.k (.i .u64 1)),960⟩,⟨some 18,none,.conv .i64 (.t 17),1984⟩,oM 5 12 63,oM 6 18 8191])
 (.seq (.reg false [oM 19 5 0,oM 20 6 0,⟨some 21,none,.bin .mul (.k (.i .i64 3)) (.t 20),0⟩,oX 22 .xor 19 21 0,oM 4 22 0])
 (.cut [4] [] .ret)))⟩
theorem ok70 : okFn Tryd.prog 3 Tryd.f70 a70 = true := by kernel_rfl
def a71L0 : AC := .cut [1,2,17,18,19] [] (.seq (.reg false [oX 20 .lss 19 18 0])
 (.seq (.ite (.t 20) (.skip) (.cut [] [] (.exit 0)))
 (.cut [1,2,17,18,19] [] (.seq (.blk 1 (.seq (.reg false [oM 21 19 0,oA 22 1 17 19 0,oL 23 22 0,oM 7 21 0,oM 8 23 0])
 (.seq (.reg false [oM 24 8 0,oY 25 .lss 24 0 0,oM 26 25 0,gf 26 (oM 27 8 0),gf 26 (oM 28 2 0),gf 26 (oX 29 .geq 27 28 0),oP 30 26 29 0,oM 31 30 0,gf 31 (oM 32 1 0),gf 31 (oM 33 7 0),gf 31 ⟨some 34,none,.slc 1 (.t 32) none (some (.t 33)) none,0⟩,gf 31 (oM 35 8 0),gf 31 (oC 36 0 56 [.t 34,.t 35] 0),oP 37 31 36 0])
 (.ite (.t 37) (.seq (.reg false [oI 6 0 61])
 (.cut [6] [] .ret)) (.skip)))))
 (.cut [1,2,17,18,19] [] (.reg false [oY 38 .add 19 0 1,oM 19 38 0]))))))
def a71 : AFn := ⟨3,39,[.t 6],
    .seq (.reg false [oI 6 0 0])
 (.seq (.seq (.reg false [oM 9 0 0,oC 10 0 92 [.t 9] 0,oY 11 .eql 10 0 0])
 (.ite (.t 11) (.seq (.reg false [oI 6 0 60])
 (.cut [6] [] .ret)) (.skip)))
 (.cut [0,1,2] [] (.seq (.seq (.reg false [oM 12 1 0,oG 13 12 0,oM 14 0 0,oC 15 0 92 [.t 14] 0,oX 16 .neq 13 15 0])
 (.ite (.t 16) (.seq (.reg false [oI 6 0 61])
 (.cut [6] [] .ret)) (.skip)))
 (.cut [1,2] [] (.seq (.seq (.reg false [oM 17 1 0,oG 18 17 0,oI 19 0 0])
 (.blk 0 (.loop a71L0)))
 (.cut [] [] (.seq (.reg false [oI 6 0 0])
 (.cut [6] [] .ret))))))))⟩
theorem ok71 : okFn Tryd.prog 3 Tryd.f71 a71 = true := by kernel_rfl
def a72 : AFn := ⟨3,137,[.t 6],
    .seq (.reg false [oB 3 40 0 0,oU 6 0])
 (.seq (.reg false [oF 8 4 3 0,oL 9 8 0,oY 10 .eql 9 0 (-1),oM 11 10 0,gt 11 (oF 12 5 3 0),gt 11 (oL 13 12 0),gt 11 (oY 14 .eql 13 0 0),oQ 15 11 14 0,oM 7 15 0])
 (.seq (.seq (.reg false [oF 16 0 3 0,oL 17 16 0])
 (.blk 0 (.seq (.reg false [oY 19 .eql 17 0 1,oM 18 19 0])
 (.ite (.t 18) (.seq (.reg false [oF 20 1 3 0,oL 21 20 0,oF 22 2 3 0,oL 23 22 0,oM 24 1 0,oC 25 0 89 [.t 21,.t 23,.t 24] 0,oY 26 .eql 25 0 0,oM 27 26 0,gt 27 (oF 28 3 3 0),gt 27 (oL 29 28 0),gt 27 (oY 30 .eql 29 0 0),oQ 31 27 30 0,oM 32 31 0,gt 32 (oM 33 7 0),gt 32 (oM 34 33 0),gf 34 (oF 35 4 3 0),gf 34 (oL 36 35 0),gf 34 (oY 37 .geq 36 0 0),gf 34 (oM 38 37 0),gt 38 (oF 39 4 3 0),gt 38 (oL 40 39 0),gt 38 (oM 41 2 0),gt 38 (oX 42 .lss 40 41 0),gf 34 (oQ 43 38 42 0),gf 34 (oM 44 43 0),gt 44 (oF 45 5 3 0),gt 44 (oL 46 45 0),gt 44 (oY 47 .eql 46 0 0),gt 44 (oM 48 47 0),gf 48 (oF 49 5 3 0),gf 48 (oL 50 49 0),gf 48 (oY 51 .eql 50 0 1),gt 44 (oP 52 48 51 0),gf 34 (oQ 53 44 52 0),gt 32 (oP 54 34 53 0),oQ 55 32 54 0,oM 6 55 0])
 (.cut [6] [] .ret)) (.seq (.reg false [oY 57 .eql 17 0 2,oM 56 57 0])
 (.ite (.t 56) (.seq (.reg false [oF 58 1 3 0,oL 59 58 0,oY 60 .eql 59 0 0,oM 61 60 0,gt 61 (oF 62 2 3 0),gt 61 (oL 63 62 0),gt 61 (oG 64 63 0),gt 61 (oY 65 .eql 64 0 1),oQ 66 61 65 0,oM 67 66 0,gt 67 (oF 68 2 3 0),gt 67 (oL 69 68 0),gt 67 (oM 70 1 0),gt 67 (oC 71 0 93 [.t 69,.t 70] 0),oQ 72 67 71 0,oM 73 72 0,gt 73 (oF 74 3 3 0),gt 73 (oL 75 74 0),gt 73 (oY 76 .geq 75 0 0),oQ 77 73 76 0,oM 78 77 0,gt 78 (oF 79 3 3 0),gt 78 (oL 80 79 0),gt 78 (oM 81 2 0),gt 78 (oX 82 .lss 80 81 0),oQ 83 78 82 0,oM 84 83 0,gt 84 (oM 85 7 0),oQ 86 84 85 0,oM 6 86 0])
 (.cut [6] [] .ret)) (.seq (.reg false [oY 88 .eql 17 0 3,oM 87 88 0])
 (.ite (.t 87) (.seq (.reg false [oF 89 1 3 0,oL 90 89 0,oY 91 .eql 90 0 0,oM 92 91 0,gt 92 (oF 93 2 3 0),gt 92 (oL 94 93 0),gt 92 (oG 95 94 0),gt 92 (oY 96 .eql 95 0 1),oQ 97 92 96 0,oM 98 97 0,gt 98 (oF 99 2 3 0),gt 98 (oL 100 99 0),gt 98 (oM 101 1 0),gt 98 (oC 102 0 93 [.t 100,.t 101] 0),oQ 103 98 102 0,oM 104 103 0,gt 104 (oF 105 3 3 0),gt 104 (oL 106 105 0),gt 104 (oY 107 .eql 106 0 0),oQ 108 104 107 0,oM 109 108 0,gt 109 (oM 110 7 0),oQ 111 109 110 0,oM 6 111 0])
 (.cut [6] [] .ret)) (.seq (.reg false [oY 113 .eql 17 0 4,oM 112 113 0])
 (.ite (.t 112) (.seq (.reg false [oF 114 1 3 0,oL 115 114 0,oY 116 .eql 115 0 0,oM 117 116 0,gt 117 (oF 118 2 3 0),gt 117 (oL 119 118 0),gt 117 (oG 120 119 0),gt 117 (oY 121 .gtr 120 0 0),oQ 122 117 121 0,oM 123 122 0,gt 123 (oF 124 2 3 0),gt 123 (oL 125 124 0),gt 123 (oM 126 1 0),gt 123 (oC 127 0 93 [.t 125,.t 126] 0),oQ 128 123 127 0,oM 129 128 0,gt 129 (oF 130 3 3 0),gt 129 (oL 131 130 0),gt 129 (oY 132 .eql 131 0 0),oQ 133 129 132 0,oM 134 133 0,gt 134 (oM 135 7 0),oQ 136 134 135 0,oM 6 136 0])
 (.cut [6] [] .ret)) (.skip)))))))))))
 (.cut [] [] (.seq (.reg false [oU 6 0])
 (.cut [6] [] .ret)))))⟩
theorem ok72 : okFn Tryd.prog 3 Tryd.f72 a72 = true := by kernel_rfl
def a73L0 : AC := .cut [0,1,7,8] [] (.seq (.reg false [oX 9 .lss 8 7 0])
 (.seq (.ite (.t 9) (.skip) (.cut [] [] (.exit 0)))
 (.cut [0,1,7,8] [] (.seq (.blk 1 (.seq (.reg false [oM 10 8 0,oM 5 10 0])
 (.seq (.reg false [oM 11 1 0,oM 12 0 0,oM 13 5 0,oA 14 1 12 13 0,oL 15 14 0,oX 16 .eql 11 15 0])
 (.ite (.t 16) (.seq (.reg false [oM 17 5 0,oM 4 17 0])
 (.cut [4] [] .ret)) (.skip)))))
 (.cut [0,1,7,8] [] (.reg false [oY 18 .add 8 0 1,oM 8 18 0]))))))
def a73 : AFn := ⟨2,19,[.t 4],
    .seq (.reg false [oI 4 0 0])
 (.seq (.seq (.reg false [oM 6 0 0,oG 7 6 0,oI 8 0 0])
 (.blk 0 (.loop a73L0)))
 (.cut [] [] (.seq (.reg false [oI 4 0 (-1)])
 (.cut [4] [] .ret))))⟩
theorem ok73 : okFn Tryd.prog 3 Tryd.f73 a73 = true := by kernel_rfl
def a74 : AFn := ⟨4,17,[.t 8],
    .seq (.reg false [⟨some 8,none,.mv (.k (.c .f64 0 0)),0⟩])
 (.seq (.reg false [oM 9 0 0,oM 10 2 0,oM 11 1 0,oX 12 .xor 10 11 0,oM 13 3 0,oM 14 1 0,oX 15 .xor 13 14 0,⟨some 16,none,.call 0 (.t 9) [.t 12,.t 15],0⟩,oM 8 16 0])
 (.cut [8] [] .ret))⟩
theorem ok74 : okFn Tryd.prog 3 Tryd.f74 a74 = true := by kernel_rfl
def a75 : AFn := ⟨4,26,[.t 8],
    .seq (.reg false [⟨some 8,none,.mv (.k (.c .f64 0 0)),0⟩])
 (.seq (.reg false [oM 9 0 0,oM 10 2 0,oM 11 1 0,oX 12 .andNot 10 11 0,oM 13 3 0,oM 14 1 0,oX 15 .andNot 13 14 0,⟨some 16,none,.call 0 (.t 9) [.t 12,.t 15],0⟩,oM 17 0 0,oM 18 2 0,oM 19 1 0,oX 20 .or 18 19 0,oM 21 3 0,oM 22 1 0,oX 23 .or 21 22 0,⟨some 24,none,.call 0 (.t 17) [.t 20,.t 23],0⟩,oC 25 0 61 [.t 16,.t 24] 0,oM 8 25 0])
 (.cut [8] [] .ret))⟩
theorem ok75 : okFn Tryd.prog 3 Tryd.f75 a75 = true := by kernel_rfl
def a76 : AFn := ⟨4,18,[.t 8],
    .seq (.reg false [⟨some 8,none,.mv (.k (.c .f64 0 0)),0⟩])
 (.seq (.reg false [oM 9 0 0,oM 10 2 0,oM 11 3 0,⟨some 12,none,.call 0 (.t 9) [.t 10,.t 11],0⟩,oM 13 1 0,oM 14 2 0,oM 15 3 0,oC 16 0 78 [.t 13,.t 14,.t 15] 0,oC 17 0 77 [.t 12,.t 16] 0,oM 8 17 0])
 (.cut [8] [] .ret))⟩
theorem ok76 : okFn Tryd.prog 3 Tryd.f76 a76 = true := by kernel_rfl
def a77 : AFn := ⟨2,9,[.t 4],
    .seq (.reg false [⟨some 4,none,.mv (.k (.c .f64 0 0)),0⟩])
 (.seq (.seq (.reg false [oM 5 1 0])
 (.ite (.t 5) (.seq (.reg false [oM 6 0 0,oC 7 0 94 [.t 6] 0,oM 4 7 0])
 (.cut [4] [] .ret)) (.skip)))
 (.cut [0] [] (.seq (.reg false [oM 8 0 0,oM 4 8 0])
 (.cut [4] [] .ret))))⟩
theorem ok77 : okFn Tryd.prog 3 Tryd.f77 a77 = true := by kernel_rfl
def a78 : AFn := ⟨3,13,[.t 6],
    .seq (.reg false [oU 6 0])
 (.seq (.reg false [oM 7 1 0,oM 8 2 0,oX 9 .xor 7 8 0,oM 10 0 0,oX 11 .and 9 10 0,oY 12 .neq 11 0 0,oM 6 12 0])
 (.cut [6] [] .ret))⟩
theorem ok78 : okFn Tryd.prog 3 Tryd.f78 a78 = true := by kernel_rfl
def a79 : AFn := ⟨5,21,[.t 9],
    .seq (.reg false [⟨some 9,none,.mv (.k (.c .f64 0 0)),0⟩])
 (.seq (.reg false [oL 10 4 0,oM 11 0 0,oM 12 1 0,oM 13 2 0,oM 14 3 0,⟨some 15,none,.call 0 (.t 10) [.t 11,.t 12,.t 13,.t 14],0⟩,oM 16 1 0,oM 17 2 0,oM 18 3 0,oC 19 0 78 [.t 16,.t 17,.t 18] 0,oC 20 0 77 [.t 15,.t 19] 0,oM 9 20 0])
 (.cut [9] [] .ret))⟩
theorem ok79 : okFn Tryd.prog 3 Tryd.f79 a79 = true := by kernel_rfl
def a80 : AFn := ⟨5,22,[.t 9],
    .seq (.reg false [⟨some 9,none,.mv (.k (.c .f64 0 0)),0⟩])
 (.seq (.seq (.reg false [oM 10 2 0,oM 11 3 0,oX 12 .or 10 11 0,oM 13 1 0,oX 14 .and 12 13 0,oY 15 .neq 14 0 0])
 (.ite (.t 15) (.seq (.reg false [⟨some 9,none,.mv (.k (.c .f64 0 0)),0⟩])
 (.cut [9] [] .ret)) (.skip)))
 (.cut [0,1,2,3,4] [] (.seq (.reg false [oL 16 4 0,oM 17 0 0,oM 18 1 0,oM 19 2 0,oM 20 3 0,⟨some 21,none,.call 0 (.t 16) [.t 17,.t 18,.t 19,.t 20],0⟩,oM 9 21 0])
 (.cut [9] [] .ret))))⟩
theorem ok80 : okFn Tryd.prog 3 Tryd.f80 a80 = true := by kernel_rfl
def a81 : AFn := ⟨5,27,[.t 9],
    .seq (.reg false [⟨some 9,none,.mv (.k (.c .f64 0 0)),0⟩])
 (.seq (.seq (.reg false [oM 12 1 0,oM 13 2 0,oM 14 3 0,oC 15 0 78 [.t 12,.t 13,.t 14] 0])
 (.ite (.t 15) (.seq (.reg false [⟨some 9,none,.mv (.k (.c .f64 0 0)),0⟩])
 (.cut [9] [] .ret)) (.skip)))
 (.cut [0,1,2,3,4] [] (.seq (.reg false [oL 17 4 0,oM 18 0 0,oM 19 1 0,oM 20 2 0,oM 21 3 0,⟨some 22,none,.call 0 (.t 17) [.t 18,.t 19,.t 20,.t 21],0⟩,oC 23 0 82 [.t 22,.k (.i .i64 1)] 0,oM 16 23 0,oE 24 16 0 0,oE 25 16 1 0,oM 10 24 0,oM 11 25 0])
 (.seq (.reg false [oM 26 10 0,oM 9 26 0])
 (.cut [9] [] .ret)))))⟩
theorem ok81 : okFn Tryd.prog 3 Tryd.f81 a81 = true := by kernel_rfl
def a82 : AFn := ⟨2,15,[.t 4,.t 5],
    .seq (.reg false [⟨some 3,none,.box false 3 (.t 1),0⟩,⟨some 4,none,.mv (.k (.c .f64 0 0)),0⟩,oI 5 0 0])
 (.seq (.seq (.reg false [oL 6 3 0,oY 7 .lss 6 0 0,oM 8 7 0,gf 8 (oL 9 3 0),gf 8 (oY 10 .gtr 9 0 2000),oP 11 8 10 0])
 (.ite (.t 11) (.seq (.reg false [⟨some 4,none,.mv (.k (.c .f64 0 0)),0⟩,oI 5 0 30])
 (.cutg 3 [4,5] [] .ret)) (.skip)))
 (.cutg 3 [0,3] [] (.seq (.reg false [oM 12 0 0,⟨some 13,none,.mkf (.func 95) [] [.t 3],0⟩,oC 14 0 83 [.t 12,.t 13] 0,oM 4 14 0,oI 5 0 0])
 (.cutg 3 [4,5] [] .ret))))⟩
theorem ok82 : okFn Tryd.prog 3 Tryd.f82 a82 = true := by kernel_rfl
def a83 : AFn := ⟨2,14,[.t 4],
    .seq (.reg false [⟨some 4,none,.mv (.k (.c .f64 0 0)),0⟩])
 (.seq (.reg false [oM 5 1 0,oM 6 0 0,⟨some 7,none,.pop .re [.t 6],0⟩,⟨some 8,none,.call 0 (.t 5) [.t 7],0⟩,oM 9 1 0,oM 10 0 0,⟨some 11,none,.pop .im [.t 10],0⟩,⟨some 12,none,.call 0 (.t 9) [.t 11],0⟩,⟨some 13,none,.pop .mk [.t 8,.t 12],0⟩,oM 4 13 0])
 (.cut [4] [] .ret))⟩
theorem ok83 : okFn Tryd.prog 3 Tryd.f83 a83 = true := by kernel_rfl
def a84 : AFn := ⟨1,5,[.t 2],
    .seq (.reg false [⟨some 2,none,.mv (.k (.f .f64 0)),0⟩])
 (.seq (.reg false [oM 3 0 0,⟨some 4,none,.pop (.fbin .add) [.t 3,.k (.f .f64 0)],0⟩,oM 2 4 0])
 (.cut [2] [] .ret))⟩
theorem ok84 : okFn Tryd.prog 3 Tryd.f84 a84 = true := by kernel_rfl
def a85 : AFn := ⟨1,25,[.t 2],
    .seq (.reg false [⟨some 2,none,.mv (.k (.sl none 0 (.ex 0))),0⟩])
 (.seq (.reg false [⟨some 4,none,.bslice 9 1 2 [.s ⟨#[]⟩,.s ⟨#[]⟩] [(0,1,.k (.s ⟨#[43,88]⟩)),(1,1,.k (.s ⟨#[43,90]⟩))],0⟩,⟨some 5,none,.bslice 9 1 2 [.s ⟨#[]⟩,.s ⟨#[]⟩] [(0,1,.k (.s ⟨#[43,88]⟩)),(1,1,.k (.s ⟨#[45,90]⟩))],0⟩,⟨some 6,none,.bslice 9 1 2 [.s ⟨#[]⟩,.s ⟨#[]⟩] [(0,1,.k (.s ⟨#[45,88]⟩)),(1,1,.k (.s ⟨#[45,90]⟩))],0⟩,⟨some 7,none,.bslice 9 1 2 [.s ⟨#[]⟩,.s ⟨#[]⟩] [(0,1,.k (.s ⟨#[45,88]⟩)),(1,1,.k (.s ⟨#[43,90]⟩))],0⟩,⟨some 8,none,.bslice 9 1 2 [.s ⟨#[]⟩,.s ⟨#[]⟩] [(0,1,.k (.s ⟨#[43,89]⟩)),(1,1,.k (.s ⟨#[43,90]⟩))],0⟩,⟨some 9,none,.bslice 9 1 2 [.s ⟨#[]⟩,.s ⟨#[]⟩] [(0,1,.k (.s ⟨#[45,89]⟩)),(1,1,.k (.s ⟨#[43,90]⟩))],0⟩,⟨some 10,none,.bslice 9 1 2 [.s ⟨#[]⟩,.s ⟨#[]⟩] [(0,1,.k (.s ⟨#[43,88]⟩)),(1,1,.k (.s ⟨#[45,89]⟩))],0⟩,⟨some 11,none,.bslice 9 1 2 [.s ⟨#[]⟩,.s ⟨#[]⟩] [(0,1,.k (.s ⟨#[43,88]⟩)),(1,1,.k (.s ⟨#[43,89]⟩))],0⟩,⟨some 12,none,.bslice 9 1 2 [.s ⟨#[]⟩,.s ⟨#[]⟩] [(0,1,.k (.s ⟨#[45,90]⟩)),(1,1,.k (.s ⟨#[43,88]⟩))],0⟩,⟨some 13,none,.bslice 9 1 2 [.s ⟨#[]⟩,.s ⟨#[]⟩] [(0,1,.k (.s ⟨#[43,90]⟩)),(1,1,.k (.s ⟨#[45,88]⟩))],0⟩,⟨some 14,none,.bslice 9 1 4 [.s ⟨#[]⟩,.s ⟨#[]⟩,.s ⟨#[]⟩,.s ⟨#[]⟩] [(0,1,.k (.s ⟨#[43,88,88]⟩)),(1,1,.k (.s ⟨#[43,90,73]⟩)),(2,1,.k (.s ⟨#[43,73,88]⟩)),(3,1,.k (.s ⟨#[43,90,90]⟩))],0⟩,⟨some 15,none,.bslice 9 1 4 [.s ⟨#[]⟩,.s ⟨#[]⟩,.s ⟨#[]⟩,.s ⟨#[]⟩] [(0,1,.k (.s ⟨#[43,88,89]⟩)),(1,1,.k (.s ⟨#[43,90,73]⟩)),(2,1,.k (.s ⟨#[43,90,88]⟩)),(3,1,.k (.s ⟨#[43,90,90]⟩))],0⟩,⟨some 16,none,.bslice 9 1 4 [.s ⟨#[]⟩,.s ⟨#[]⟩,.s ⟨#[]⟩,.s ⟨#[]⟩] [(0,1,.k (.s ⟨#[43,88,90]⟩)),(1,1,.k (.s ⟨#[43,90,73]⟩)),(2,1,.k (.s ⟨#[43,90,88]⟩)),(3,1,.k (.s ⟨#[43,73,90]⟩))],0⟩,⟨some 17,none,.bslice 9 1 4 [.s ⟨#[]⟩,.s ⟨#[]⟩,.s ⟨#[]⟩,.s ⟨#[]⟩] [(0,1,.k (.s ⟨#[43,73,88]⟩)),(1,1,.k (.s ⟨#[43,73,90]⟩)),(2,1,.k (.s ⟨#[43,88,73]⟩)),(3,1,.k (.s ⟨#[43,90,73]⟩))],0⟩,⟨some 18,none,.bslice 9 1 4 [.s ⟨#[]⟩,.s ⟨#[]⟩,.s ⟨#[]⟩,.s ⟨#[]⟩] [(0,1,.k (.s ⟨#[43,90,89]⟩)),(1,1,.k (.s ⟨#[43,73,90]⟩)),(2,1,.k (.s ⟨#[43,89,90]⟩)),(3,1,.k (.s ⟨#[43,90,73]⟩))],0⟩,⟨some 19,none,.bslice 9 1 4 [.s ⟨#[]⟩,.s ⟨#[]⟩,.s ⟨#[]⟩,.s ⟨#[]⟩] [(0,1,.k (.s ⟨#[45,90,89]⟩)),(1,1,.k (.s ⟨#[43,73,90]⟩)),(2,1,.k (.s ⟨#[45,89,90]⟩)),(3,1,.k (.s ⟨#[43,90,73]⟩))],0⟩,⟨some 20,none,.bslice 9 1 4 [.s ⟨#[]⟩,.s ⟨#[]⟩,.s ⟨#[]⟩,.s ⟨#[]⟩] [(0,1,.k (.s ⟨#[43,90,73]⟩)),(1,1,.k (.s ⟨#[43,88,73]⟩)),(2,1,.k (.s ⟨#[43,73,90]⟩)),(3,1,.k (.s ⟨#[43,73,88]⟩))],0⟩,⟨some 21,none,.build [.sl none 0 (.ex 0),.sl none 0 (.ex 0),.sl none 0 (.ex 0),.sl none 0 (.ex 0),.sl none 0 (.ex 0),.sl none 0 (.ex 0),.sl none 0 (.ex 0),.sl none 0 (.ex 0),.sl none 0 (.ex 0),.sl none 0 (.ex 0),.sl none 0 (.ex 0),.sl none 0 (.ex 0),.sl none 0 (.ex 0),.sl none 0 (.ex 0),.sl none 0 (.ex 0),.sl none 0 (.ex 0),.sl none 0 (.ex 0),.sl none 0 (.ex 0)] [(1,1,.t 4),(2,1,.t 5),(3,1,.t 6),(4,1,.t 7),(5,1,.t 8),(6,1,.t 9),(7,1,.t 10),(8,1,.t 11),(9,1,.t 12),(10,1,.t 13),(11,1,.t 14),(12,1,.t 15),(13,1,.t 16),(14,1,.t 17),(15,1,.t 18),(16,1,.t 19),(17,1,.t 20)],0⟩,⟨some 3,none,.alloc true 160 [.sl none 0 (.ex 0),.sl none 0 (.ex 0),.sl none 0 (.ex 0),.sl none 0 (.ex 0),.sl none 0 (.ex 0),.sl none 0 (.ex 0),.sl none 0 (.ex 0),.sl none 0 (.ex 0),.sl none 0 (.ex 0),.sl none 0 (.ex 0),.sl none 0 (.ex 0),.sl none 0 (.ex 0),.sl none 0 (.ex 0),.sl none 0 (.ex 0),.sl none 0 (.ex 0),.sl none 0 (.ex 0),.sl none 0 (.ex 0),.sl none 0 (.ex 0)],0⟩,oS 18 3 21 0])
 (.seq (.reg false [oM 22 0 0,⟨some 23,none,.iadra 1 18 (.t 3) (.t 22),0⟩,oL 24 23 0,oM 2 24 0])
 (.cutg 3 [2] [] .ret)))⟩
theorem ok85 : okFn Tryd.prog 3 Tryd.f85 a85 = true := by kernel_rfl
def a86L0 : AC := .cut [2,3,4,5,6] [2,3,4] (.seq (.seq (.reg false [oM 24 6 0,⟨some 25,none,.bin .neq (.t 24) (.k (.i .u64 0)),0⟩])
 (.ite (.t 25) (.skip) (.cut [2,3,4,5] [2,3,4] (.exit 0))))
 (.cut [2,3,4,5,6] [2,3,4] (.seq (.blk 1 (.seq (.reg false [oM 30 6 0,oC 31 0 97 [.t 30] 0,oM 7 31 0])
 (.seq (.reg true [oJ 32 4 3 0,oM 33 7 0,oC 34 0 70 [.t 32,.t 33] 3,oJ 35 4 2 0,oM 36 7 0,oC 37 0 70 [.t 35,.t 36] 31,oX 38 .sub 34 37 63,oY 39 .add 38 127 3,oY 40 .rem 39 255 3])
 (.blk 2 (.seq (.reg false [oY 42 .eql 40 0 1,oM 41 42 0])
 (.ite (.t 41) (.reg false [oM 43 5 0,oY 44 .add 43 0 1,oM 5 44 0]) (.seq (.reg false [oY 46 .eql 40 0 2,oM 45 46 0])
 (.ite (.t 45) (.reg false [oM 47 5 0,oY 48 .add 47 0 3,oM 5 48 0]) (.skip)))))))))
 (.cut [2,3,4,5,6] [2,3,4] (.reg false [oM 26 6 0,oM 27 6 0,⟨some 28,none,.bin .sub (.t 27) (.k (.i .u64 1)),0⟩,oX 29 .and 26 28 0,oM 6 29 0])))))
def a86 : AFn := ⟨2,64,[.cell 4 (some 4)],
    .seq (.reg false [oB 2 51 0 0,oB 3 51 1 0,⟨some 4,none,.alloc true 51 [.i .i64 0,.i .u64 0,.i .u64 0,.i .i64 0],0⟩])
 (.seq (.reg false [oF 8 3 2 0,oL 9 8 0,oF 10 3 3 0,oL 11 10 0,oX 12 .add 9 11 0,oM 5 12 0])
 (.seq (.seq (.reg false [oF 13 1 2 0,oL 14 13 0,oF 15 2 2 0,oL 16 15 0,oX 17 .or 14 16 0,oF 18 1 3 0,oL 19 18 0,oF 20 2 3 0,oL 21 20 0,oX 22 .or 19 21 0,oX 23 .and 17 22 0,oM 6 23 0])
 (.blk 0 (.loop a86L0)))
 (.cut [2,3,4,5] [2,3,4] (.seq (.reg false [oF 49 0 2 0,oL 50 49 0,oF 51 1 2 0,oL 52 51 0,oF 53 1 3 0,oL 54 53 0,oX 55 .xor 52 54 0,oF 56 2 2 0,oL 57 56 0,oF 58 2 3 0,oL 59 58 0,oX 60 .xor 57 59 0,oM 61 5 0,oY 62 .rem 61 0 4,⟨some 63,none,.build [.i .i64 0,.i .u64 0,.i .u64 0,.i .i64 0] [(0,1,.t 50),(1,1,.t 55),(2,1,.t 60),(3,1,.t 62)],0⟩,oS 4 4 63 0])
 (.cut [4] [4] .ret)))))⟩
theorem ok86 : okFn Tryd.prog 3 Tryd.f86 a86 = true := by kernel_rfl
def a87L0 : AC := .cut [0,6,7,17,18,19] [6,7] (.seq (.reg false [oX 20 .lss 19 18 0])
 (.seq (.ite (.t 20) (.skip) (.cut [6,7] [6,7] (.exit 0)))
 (.cut [0,6,7,17,18,19] [6,7] (.seq (.blk 1 (.seq (.reg false [oM 21 19 0,oA 22 1 17 19 0,oL 23 22 0,oM 8 21 0,oM 9 23 0])
 (.seq (.reg false [oM 24 0 0,oM 25 8 0,oY 26 .add 25 0 1,⟨some 27,none,.idxs (.t 24) (.t 26),0⟩,⟨some 28,none,.call 0 (.k (.fn (.func 98) [] [])) [.k (.s ⟨#[73,88,89,90]⟩),.t 27],0⟩,oM 10 28 0])
 (.seq (.seq (.reg false [oM 29 10 0,oY 30 .eql 29 0 1,oM 31 30 0,gf 31 (oM 32 10 0),gf 31 (oY 33 .eql 32 0 2),oP 34 31 33 0])
 (.ite (.t 34) (.reg true [oF 35 1 7 0,oL 36 35 1,oM 37 9 0,⟨some 38,none,.bin .shl (.k (.i .u64 1)) (.t 37),4⟩,oX 39 .or 36 38 15,oF 40 1 7 31,oS 1 40 39 63]) (.skip)))
 (.cut [0,6,7,9,10,17,18,19] [6,7] (.seq (.reg false [oM 41 10 0,oY 42 .geq 41 0 2])
 (.ite (.t 42) (.reg true [oF 43 2 7 0,oL 44 43 1,oM 45 9 0,⟨some 46,none,.bin .shl (.k (.i .u64 1)) (.t 45),4⟩,oX 47 .or 44 46 15,oF 48 2 7 31,oS 1 48 47 63]) (.skip))))))))
 (.cut [0,6,7,17,18,19] [6,7] (.reg false [oY 49 .add 19 0 1,oM 19 49 0]))))))
def a87 : AFn := ⟨3,51,[.cell 6 (some 4)],
    .seq (.reg false [⟨some 6,none,.alloc true 51 [.i .i64 0,.i .u64 0,.i .u64 0,.i .i64 0],0⟩])
 (.seq (.reg false [oM 11 1 0,⟨some 12,none,.build [.i .i64 0,.i .u64 0,.i .u64 0,.i .i64 0] [(0,1,.t 11)],0⟩,⟨some 7,none,.alloc true 51 [.i .i64 0,.i .u64 0,.i .u64 0,.i .i64 0],0⟩,oS 4 7 12 0])
 (.seq (.seq (.reg false [oM 13 0 0,⟨some 14,none,.idxs (.t 13) (.k (.i .i64 0)),0⟩,⟨some 15,none,.bin .eql (.t 14) (.k (.i .u8 45)),0⟩])
 (.ite (.t 15) (.reg false [oF 16 3 7 0,⟨none,none,.store 1 (.t 16) (.k (.i .i64 2)),0⟩]) (.skip)))
 (.cut [0,2,6,7] [6,7] (.seq (.seq (.reg false [oM 17 2 0,oG 18 17 0,oI 19 0 0])
 (.blk 0 (.loop a87L0)))
 (.cut [6,7] [6,7] (.seq (.reg false [oJ 50 4 7 0,oS 4 6 50 0])
 (.cut [6] [6] .ret)))))))⟩
theorem ok87 : okFn Tryd.prog 3 Tryd.f87 a87 = true := by kernel_rfl
def a89L0 : AC := .cut [1,2,7,8] [] (.seq (.seq (.reg false [oM 36 8 0,oM 37 7 0,oX 38 .lss 36 37 0])
 (.ite (.t 38) (.skip) (.cut [1,2,7] [] (.exit 2))))
 (.cut [1,2,7,8] [] (.seq (.blk 3 (.seq (.reg true [oM 41 1 0,oM 42 7 0,oA 43 1 41 42 3,oL 44 43 7,oM 45 1 0,oM 46 8 0,oA 47 1 45 46 48,oL 48 47 112,oX 49 .eql 44 48 255])
 (.ite (.t 49) (.seq (.reg false [oI 6 0 61])
 (.cut [6] [] .ret)) (.skip))))
 (.cut [1,2,7,8] [] (.reg false [oM 39 8 0,oY 40 .add 39 0 1,oM 8 40 0])))))
def a89L1 : AC := .cut [1,2,7] [] (.seq (.seq (.reg false [oM 17 7 0,oM 18 1 0,oG 19 18 0,oX 20 .lss 17 19 0])
 (.ite (.t 20) (.skip) (.cut [] [] (.exit 0))))
 (.cut [1,2,7] [] (.seq (.blk 1 (.seq (.seq (.reg false [oM 23 1 0,oM 24 7 0,oA 25 1 23 24 0,oL 26 25 0,oY 27 .lss 26 0 0,oM 28 27 0,gf 28 (oM 29 1 0),gf 28 (oM 30 7 0),gf 28 (oA 31 1 29 30 0),gf 28 (oL 32 31 0),gf 28 (oM 33 2 0),gf 28 (oX 34 .geq 32 33 0),oP 35 28 34 0])
 (.ite (.t 35) (.seq (.reg false [oI 6 0 61])
 (.cut [6] [] .ret)) (.skip)))
 (.cut [1,2,7] [] (.seq (.reg false [oI 8 0 0])
 (.blk 2 (.loop a89L0))))))
 (.cut [1,2,7] [] (.reg false [oM 21 7 0,oY 22 .add 21 0 1,oM 7 22 0])))))
def a89 : AFn := ⟨3,50,[.t 6],
    .seq (.reg false [oI 6 0 0])
 (.seq (.seq (.reg false [oM 9 0 0,oC 10 0 99 [.t 9] 0,oN 11 10 0])
 (.ite (.t 11) (.seq (.reg false [oI 6 0 60])
 (.cut [6] [] .ret)) (.skip)))
 (.cut [0,1,2] [] (.seq (.seq (.reg false [oM 12 1 0,oG 13 12 0,oM 14 0 0,oC 15 0 100 [.t 14] 0,oX 16 .neq 13 15 0])
 (.ite (.t 16) (.seq (.reg false [oI 6 0 61])
 (.cut [6] [] .ret)) (.skip)))
 (.cut [1,2] [] (.seq (.seq (.reg false [oI 7 0 0])
 (.blk 0 (.loop a89L1)))
 (.cut [] [] (.seq (.reg false [oI 6 0 0])
 (.cut [6] [] .ret))))))))⟩
theorem ok89 : okFn Tryd.prog 3 Tryd.f89 a89 = true := by kernel_rfl
def a92 : AFn := ⟨1,6,[.t 2],
    .seq (.reg false [oI 2 0 0])
 (.seq (.reg false [oM 3 0 0,oC 4 0 103 [.t 3] 0,⟨some 5,none,.fld 1 none (.t 4),0⟩,oM 2 5 0])
 (.cut [2] [] .ret))⟩
theorem ok92 : okFn Tryd.prog 3 Tryd.f92 a92 = true := by kernel_rfl
def a93L0 : AC := .cut [0,1,5,6] [] (.seq (.seq (.reg false [oM 26 6 0,oM 27 5 0,oX 28 .lss 26 27 0])
 (.ite (.t 28) (.skip) (.cut [0,1,5] [] (.exit 2))))
 (.cut [0,1,5,6] [] (.seq (.blk 3 (.seq (.reg true [oM 31 0 0,oM 32 6 0,oA 33 1 31 32 3,oL 34 33 7,oM 35 0 0,oM 36 5 0,oA 37 1 35 36 48,oL 38 37 112,oX 39 .eql 34 38 255])
 (.ite (.t 39) (.seq (.reg false [oU 4 0])
 (.cut [4] [] .ret)) (.skip))))
 (.cut [0,1,5,6] [] (.reg false [oM 29 6 0,oY 30 .add 29 0 1,oM 6 30 0])))))
def a93L1 : AC := .cut [0,1,5] [] (.seq (.seq (.reg false [oM 7 5 0,oM 8 0 0,oG 9 8 0,oX 10 .lss 7 9 0])
 (.ite (.t 10) (.skip) (.cut [] [] (.exit 0))))
 (.cut [0,1,5] [] (.seq (.blk 1 (.seq (.seq (.reg false [oM 13 0 0,oM 14 5 0,oA 15 1 13 14 0,oL 16 15 0,oY 17 .lss 16 0 0,oM 18 17 0,gf 18 (oM 19 0 0),gf 18 (oM 20 5 0),gf 18 (oA 21 1 19 20 0),gf 18 (oL 22 21 0),gf 18 (oM 23 1 0),gf 18 (oX 24 .geq 22 23 0),oP 25 18 24 0])
 (.ite (.t 25) (.seq (.reg false [oU 4 0])
 (.cut [4] [] .ret)) (.skip)))
 (.cut [0,1,5] [] (.seq (.reg false [oI 6 0 0])
 (.blk 2 (.loop a93L0))))))
 (.cut [0,1,5] [] (.reg false [oM 11 5 0,oY 12 .add 11 0 1,oM 5 12 0])))))
def a93 : AFn := ⟨2,40,[.t 4],
    .seq (.reg false [oU 4 0])
 (.seq (.seq (.reg false [oI 5 0 0])
 (.blk 0 (.loop a93L1)))
 (.cut [] [] (.seq (.reg false [oT 4 0])
 (.cut [4] [] .ret))))⟩
theorem ok93 : okFn Tryd.prog 3 Tryd.f93 a93 = true := by kernel_rfl
def a94 : AFn := ⟨1,10,[.t 2],
    .seq (.reg false [⟨some 2,none,.mv (.k (.c .f64 0 0)),0⟩])
 (.seq (.reg false [oM 3 0 0,⟨some 4,none,.pop .re [.t 3],0⟩,⟨some 5,none,.pop .fneg [.t 4],0⟩,oM 6 0 0,⟨some 7,none,.pop .im [.t 6],0⟩,⟨some 8,none,.pop .fneg [.t 7],0⟩,⟨some 9,none,.pop .mk [.t 5,.t 8],0⟩,oM 2 9 0])
 (.cut [2] [] .ret))⟩
theorem ok94 : okFn Tryd.prog 3 Tryd.f94 a94 = true := by kernel_rfl
def a95 : AFn := ⟨2,8,[.t 3],
    .seq (.reg false [⟨some 3,none,.mv (.k (.f .f64 0)),0⟩])
 (.seq (.reg false [oM 4 0 0,oL 5 1 0,⟨some 6,none,.un .neg (.t 5),0⟩,oC 7 0 96 [.t 4,.t 6] 0,oM 3 7 0])
 (.cut [3] [] .ret))⟩
theorem ok95 : okFn Tryd.prog 3 Tryd.f95 a95 = true := by kernel_rfl
def a96 : AFn := ⟨2,11,[.t 4],
    .seq (.reg false [⟨some 4,none,.mv (.k (.f .f64 0)),0⟩])
 (.seq (.ite (.k (.b false)) (.seq (.reg false [oM 5 0 0,oM 6 1 0,oC 7 0 104 [.t 5,.t 6] 0,oM 4 7 0])
 (.cut [4] [] .ret)) (.skip))
 (.cut [0,1] [] (.seq (.reg false [oM 8 0 0,oM 9 1 0,oC 10 0 105 [.t 8,.t 9] 0,oM 4 10 0])
 (.cut [4] [] .ret))))⟩
theorem ok96 : okFn Tryd.prog 3 Tryd.f96 a96 = true := by kernel_rfl
def a97 : AFn := ⟨1,14,[.t 2],
    .seq (.reg false [oI 2 0 0])
 (.seq (.seq (.reg false [oM 3 0 0,⟨some 4,none,.bin .eql (.t 3) (.k (.i .u64 0)),0⟩])
 (.ite (.t 4) (.seq (.reg false [oI 2 0 64])
 (.cut [2] [] .ret)) (.skip)))
 (.cut [0] [] (.seq (.reg false [oM 5 0 0,oM 6 0 0,⟨some 7,none,.un .neg (.t 6),0⟩,oX 8 .and 5 7 0,⟨some 9,none,.bin .mul (.t 8) (.k (.i .u64 285870213051353865)),0⟩,⟨some 10,none,.bin .shr (.t 9) (.k (.i .u64 58)),0⟩,⟨some 11,none,.iadra 1 64 (.k (.p (some (1,0)))) (.t 10),0⟩,oL 12 11 0,⟨some 13,none,.conv .i64 (.t 12),0⟩,oM 2 13 0])
 (.cut [2] [] .ret))))⟩
theorem ok97 : okFn Tryd.prog 3 Tryd.f97 a97 = true := by kernel_rfl
def a98 : AFn := ⟨2,8,[.t 4],
    .seq (.reg false [oI 4 0 0])
 (.seq (.reg false [oM 5 0 0,oM 6 1 0,oC 7 0 106 [.t 5,.t 6] 0,oM 4 7 0])
 (.cut [4] [] .ret))⟩
theorem ok98 : okFn Tryd.prog 3 Tryd.f98 a98 = true := by kernel_rfl
def a99 : AFn := ⟨1,9,[.t 2],
    .seq (.reg false [oU 2 0])
 (.seq (.reg false [oM 3 0 0,oY 4 .geq 3 0 1,oM 5 4 0,gt 5 (oM 6 0 0),gt 5 (oY 7 .leq 6 0 20),oQ 8 5 7 0,oM 2 8 0])
 (.cut [2] [] .ret))⟩
theorem ok99 : okFn Tryd.prog 3 Tryd.f99 a99 = true := by kernel_rfl
def a100 : AFn := ⟨1,13,[.t 2],
    .seq (.reg false [oI 2 0 0])
 (.seq (.blk 0 (.seq (.reg false [oM 4 0 0,oC 5 0 99 [.t 4] 0,oN 6 5 0,oM 3 6 0])
 (.ite (.t 3) (.seq (.reg false [oI 2 0 0])
 (.cut [2] [] .ret)) (.seq (.reg false [oM 8 0 0,oY 9 .leq 8 0 10,oM 7 9 0])
 (.ite (.t 7) (.seq (.reg false [oI 2 0 1])
 (.cut [2] [] .ret)) (.seq (.reg false [oM 11 0 0,oY 12 .leq 11 0 17,oM 10 12 0])
 (.ite (.t 10) (.seq (.reg false [oI 2 0 2])
 (.cut [2] [] .ret)) (.skip))))))))
 (.cut [] [] (.seq (.reg false [oI 2 0 3])
 (.cut [2] [] .ret))))⟩
theorem ok100 : okFn Tryd.prog 3 Tryd.f100 a100 = true := by kernel_rfl
def a103 : AFn := ⟨1,13,[.cell 2 (some 4)],
    .seq (.reg false [⟨some 2,none,.alloc true 165 [.s ⟨#[]⟩,.i .i64 0,.i .i64 0,.i .i64 0],0⟩])
 (.seq (.seq (.reg false [oM 3 0 0,oY 4 .lss 3 0 1,oM 5 4 0,gf 5 (oM 6 0 0),gf 5 (oY 7 .gtr 6 0 20),oP 8 5 7 0])
 (.ite (.t 8) (.seq (.reg false [⟨some 9,none,.build [.s ⟨#[]⟩,.i .i64 0,.i .i64 0,.i .i64 0] [],0⟩,oS 4 2 9 0])
 (.cut [2] [2] .ret)) (.skip)))
 (.cut [0,2] [2] (.seq (.reg false [oC 10 0 107 [] 0,oM 11 0 0,⟨some 12,none,.idx 4 true 21 (.t 10) (.t 11),0⟩,oS 4 2 12 0])
 (.cut [2] [2] .ret))))⟩
theorem ok103 : okFn Tryd.prog 3 Tryd.f103 a103 = true := by kernel_rfl
def a105 : AFn := ⟨2,63,[.t 4],
    .seq (.reg false [⟨some 4,none,.mv (.k (.f .f64 0)),0⟩])
 (.seq (.blk 0 (.seq (.reg false [oM 9 0 0,⟨some 10,none,.pop (.fcmp .eql) [.t 9,.k (.f .f64 0)],0⟩,oM 8 10 0])
 (.ite (.t 8) (.seq (.reg false [oM 11 0 0,oM 4 11 0])
 (.cut [4] [] .ret)) (.seq (.reg false [oM 13 0 0,oC 14 0 108 [.t 13,.k (.i .i64 0)] 0,oM 15 14 0,gf 15 (oM 16 0 0),gf 15 (oC 17 0 109 [.t 16] 0),oP 18 15 17 0,oM 12 18 0])
 (.ite (.t 12) (.seq (.reg false [oM 19 0 0,oM 4 19 0])
 (.cut [4] [] .ret)) (.skip))))))
 (.cut [0,1] [] (.seq (.reg false [oM 21 0 0,oC 22 0 110 [.t 21] 0,oM 20 22 0,oE 23 20 0 0,oE 24 20 1 0,oM 0 23 0,oM 5 24 0])
 (.seq (.reg false [oM 25 1 0,oM 26 5 0,oX 27 .add 25 26 0,oM 1 27 0])
 (.seq (.reg false [oM 28 0 0,⟨some 29,none,.pop .fbits [.t 28],0⟩,oM 6 29 0])
 (.seq (.reg false [oM 30 1 0,oM 31 6 0,⟨some 32,none,.bin .shr (.t 31) (.k (.i .u64 52)),0⟩,⟨some 33,none,.conv .i64 (.t 32),0⟩,oY 34 .and 33 0 2047,oY 35 .sub 34 0 1023,oX 36 .add 30 35 0,oM 1 36 0])
 (.seq (.seq (.reg false [oM 37 1 0,oY 38 .lss 37 0 (-1075)])
 (.ite (.t 38) (.seq (.reg false [oM 39 0 0,oC 40 0 111 [.k (.f .f64 0),.t 39] 0,oM 4 40 0])
 (.cut [4] [] .ret)) (.skip)))
 (.cut [0,1,6] [] (.seq (.seq (.reg false [oM 41 1 0,oY 42 .gtr 41 0 1023])
 (.ite (.t 42) (.seq (.seq (.reg false [oM 43 0 0,⟨some 44,none,.pop (.fcmp .lss) [.t 43,.k (.f .f64 0)],0⟩])
 (.ite (.t 44) (.seq (.reg false [oC 45 0 112 [.k (.i .i64 (-1))] 0,oM 4 45 0])
 (.cut [4] [] .ret)) (.skip)))
 (.cut [] [] (.seq (.reg false [oC 46 0 112 [.k (.i .i64 1)] 0,oM 4 46 0])
 (.cut [4] [] .ret)))) (.skip)))
 (.cut [1,6] [] (.seq (.reg false [⟨some 7,none,.mv (.k (.f .f64 4607182418800017408)),0⟩])
 (.seq (.seq (.reg false [oM 47 1 0,oY 48 .lss 47 0 (-1022)])
 (.ite (.t 48) (.seq (.reg false [oM 49 1 0,oY 50 .add 49 0 53,oM 1 50 0])
 (.reg false [⟨some 7,none,.mv (.k (.f .f64 4368491638549381120)),0⟩])) (.skip)))
 (.cut [1,6,7] [] (.seq (.reg false [oM 51 6 0,⟨some 52,none,.bin .andNot (.t 51) (.k (.i .u64 9218868437227405312)),0⟩,oM 6 52 0])
 (.seq (.reg false [oM 53 6 0,oM 54 1 0,oY 55 .add 54 0 1023,⟨some 56,none,.conv .u64 (.t 55),0⟩,⟨some 57,none,.bin .shl (.t 56) (.k (.i .u64 52)),0⟩,oX 58 .or 53 57 0,oM 6 58 0])
 (.seq (.reg false [oM 59 7 0,oM 60 6 0,⟨some 61,none,.pop .ffrom [.t 60],0⟩,⟨some 62,none,.pop (.fbin .mul) [.t 59,.t 61],0⟩,oM 4 62 0])
 (.cut [4] [] .ret)))))))))))))))))⟩
theorem ok105 : okFn Tryd.prog 3 Tryd.f105 a105 = true := by kernel_rfl
def a107 : AFn := ⟨0,22,[.cell 0 (some 84)],
    .seq (.reg false [⟨some 0,none,.alloc true 168 [.s ⟨#[]⟩,.i .i64 0,.i .i64 0,.i .i64 0,.s ⟨#[]⟩,.i .i64 0,.i .i64 0,.i .i64 0,.s ⟨#[]⟩,.i .i64 0,.i .i64 0,.i .i64 0,.s ⟨#[]⟩,.i .i64 0,.i .i64 0,.i .i64 0,.s ⟨#[]⟩,.i .i64 0,.i .i64 0,.i .i64 0,.s ⟨#[]⟩,.i .i64 0,.i .i64 0,.i .i64 0,.s ⟨#[]⟩,.i .i64 0,.i .i64 0,.i .i64 0,.s ⟨#[]⟩,.i .i64 0,.i .i64 0,.i .i64 0,.s ⟨#[]⟩,.i .i64 0,.i .i64 0,.i .i64 0,.s ⟨#[]⟩,.i .i64 0,.i .i64 0,.i .i64 0,.s ⟨#[]⟩,.i .i64 0,.i .i64 0,.i .i64 0,.s ⟨#[]⟩,.i .i64 0,.i .i64 0,.i .i64 0,.s ⟨#[]⟩,.i .i64 0,.i .i64 0,.i .i64 0,.s ⟨#[]⟩,.i .i64 0,.i .i64 0,.i .i64 0,.s ⟨#[]⟩,.i .i64 0,.i .i64 0,.i .i64 0,.s ⟨#[]⟩,.i .i64 0,.i .i64 0,.i .i64 0,.s ⟨#[]⟩,.i .i64 0,.i .i64 0,.i .i64 0,.s ⟨#[]⟩,.i .i64 0,.i .i64 0,.i .i64 0,.s ⟨#[]⟩,.i .i64 0,.i .i64 0,.i .i64 0,.s ⟨#[]⟩,.i .i64 0,.i .i64 0,.i .i64 0,.s ⟨#[]⟩,.i .i64 0,.i .i64 0,.i .i64 0],0⟩])
 (.seq (.reg false [⟨some 1,none,.build [.s ⟨#[]⟩,.i .i64 0,.i .i64 0,.i .i64 0] [(0,1,.k (.s ⟨#[105,100]⟩)),(1,1,.k (.i .i64 1)),(2,1,.k (.i .i64 0)),(3,1,.k (.i .i64 1))],0⟩,⟨some 2,none,.build [.s ⟨#[]⟩,.i .i64 0,.i .i64 0,.i .i64 0] [(0,1,.k (.s ⟨#[120]⟩)),(1,1,.k (.i .i64 1)),(2,1,.k (.i .i64 0)),(3,1,.k (.i .i64 2))],0⟩,⟨some 3,none,.build [.s ⟨#[]⟩,.i .i64 0,.i .i64 0,.i .i64 0] [(0,1,.k (.s ⟨#[121]⟩)),(1,1,.k (.i .i64 1)),(2,1,.k (.i .i64 0)),(3,1,.k (.i .i64 3))],0⟩,⟨some 4,none,.build [.s ⟨#[]⟩,.i .i64 0,.i .i64 0,.i .i64 0] [(0,1,.k (.s ⟨#[122]⟩)),(1,1,.k (.i .i64 1)),(2,1,.k (.i .i64 0)),(3,1,.k (.i .i64 4))],0⟩,⟨some 5,none,.build [.s ⟨#[]⟩,.i .i64 0,.i .i64 0,.i .i64 0] [(0,1,.k (.s ⟨#[115]⟩)),(1,1,.k (.i .i64 1)),(2,1,.k (.i .i64 0)),(3,1,.k (.i .i64 6))],0⟩,⟨some 6,none,.build [.s ⟨#[]⟩,.i .i64 0,.i .i64 0,.i .i64 0] [(0,1,.k (.s ⟨#[115,100,103]⟩)),(1,1,.k (.i .i64 1)),(2,1,.k (.i .i64 0)),(3,1,.k (.i .i64 5))],0⟩,⟨some 7,none,.build [.s ⟨#[]⟩,.i .i64 0,.i .i64 0,.i .i64 0] [(0,1,.k (.s ⟨#[115,120]⟩)),(1,1,.k (.i .i64 1)),(2,1,.k (.i .i64 0)),(3,1,.k (.i .i64 8))],0⟩,⟨some 8,none,.build [.s ⟨#[]⟩,.i .i64 0,.i .i64 0,.i .i64 0] [(0,1,.k (.s ⟨#[115,120,100,103]⟩)),(1,1,.k (.i .i64 1)),(2,1,.k (.i .i64 0)),(3,1,.k (.i .i64 7))],0⟩,⟨some 9,none,.build [.s ⟨#[]⟩,.i .i64 0,.i .i64 0,.i .i64 0] [(0,1,.k (.s ⟨#[115,121]⟩)),(1,1,.k (.i .i64 1)),(2,1,.k (.i .i64 0)),(3,1,.k (.i .i64 10))],0⟩,⟨some 10,none,.build [.s ⟨#[]⟩,.i .i64 0,.i .i64 0,.i .i64 0] [(0,1,.k (.s ⟨#[115,121,100,103]⟩)),(1,1,.k (.i .i64 1)),(2,1,.k (.i .i64 0)),(3,1,.k (.i .i64 9))],0⟩,⟨some 11,none,.build [.s ⟨#[]⟩,.i .i64 0,.i .i64 0,.i .i64 0] [(0,1,.k (.s ⟨#[99,120]⟩)),(1,1,.k (.i .i64 2)),(2,1,.k (.i .i64 1)),(3,1,.k (.i .i64 11))],0⟩,⟨some 12,none,.build [.s ⟨#[]⟩,.i .i64 0,.i .i64 0,.i .i64 0] [(0,1,.k (.s ⟨#[99,121]⟩)),(1,1,.k (.i .i64 2)),(2,1,.k (.i .i64 1)),(3,1,.k (.i .i64 12))],0⟩,⟨some 13,none,.build [.s ⟨#[]⟩,.i .i64 0,.i .i64 0,.i .i64 0] [(0,1,.k (.s ⟨#[99,122]⟩)),(1,1,.k (.i .i64 2)),(2,1,.k (.i .i64 0)),(3,1,.k (.i .i64 13))],0⟩,⟨some 14,none,.build [.s ⟨#[]⟩,.i .i64 0,.i .i64 0,.i .i64 0] [(0,1,.k (.s ⟨#[115,119,97,112]⟩)),(1,1,.k (.i .i64 2)),(2,1,.k (.i .i64 0)),(3,1,.k (.i .i64 14))],0⟩,⟨some 15,none,.build [.s ⟨#[]⟩,.i .i64 0,.i .i64 0,.i .i64 0] [(0,1,.k (.s ⟨#[105,115,119,97,112]⟩)),(1,1,.k (.i .i64 2)),(2,1,.k (.i .i64 0)),(3,1,.k (.i .i64 16))],0⟩,⟨some 16,none,.build [.s ⟨#[]⟩,.i .i64 0,.i .i64 0,.i .i64 0] [(0,1,.k (.s ⟨#[105,115,119,97,112,100,103]⟩)),(1,1,.k (.i .i64 2)),(2,1,.k (.i .i64 0)),(3,1,.k (.i .i64 15))],0⟩,⟨some 17,none,.build [.s ⟨#[]⟩,.i .i64 0,.i .i64 0,.i .i64 0] [(0,1,.k (.s ⟨#[104,104]⟩)),(1,1,.k (.i .i64 2)),(2,1,.k (.i .i64 0)),(3,1,.k (.i .i64 17))],0⟩,⟨some 18,none,.build [.s ⟨#[]⟩,.i .i64 0,.i .i64 0,.i .i64 0] [(0,1,.k (.s ⟨#[99,99,120]⟩)),(1,1,.k (.i .i64 3)),(2,1,.k (.i .i64 2)),(3,1,.k (.i .i64 18))],0⟩,⟨some 19,none,.build [.s ⟨#[]⟩,.i .i64 0,.i .i64 0,.i .i64 0] [(0,1,.k (.s ⟨#[99,99,122]⟩)),(1,1,.k (.i .i64 3)),(2,1,.k (.i .i64 0)),(3,1,.k (.i .i64 19))],0⟩,⟨some 20,none,.build [.s ⟨#[]⟩,.i .i64 0,.i .i64 0,.i .i64 0] [(0,1,.k (.s ⟨#[99,115,119,97,112]⟩)),(1,1,.k (.i .i64 3)),(2,1,.k (.i .i64 1)),(3,1,.k (.i .i64 20))],0⟩,⟨some 21,none,.build [.s ⟨#[]⟩,.i .i64 0,.i .i64 0,.i .i64 0,.s ⟨#[]⟩,.i .i64 0,.i .i64 0,.i .i64 0,.s ⟨#[]⟩,.i .i64 0,.i .i64 0,.i .i64 0,.s ⟨#[]⟩,.i .i64 0,.i .i64 0,.i .i64 0,.s ⟨#[]⟩,.i .i64 0,.i .i64 0,.i .i64 0,.s ⟨#[]⟩,.i .i64 0,.i .i64 0,.i .i64 0,.s ⟨#[]⟩,.i .i64 0,.i .i64 0,.i .i64 0,.s ⟨#[]⟩,.i .i64 0,.i .i64 0,.i .i64 0,.s ⟨#[]⟩,.i .i64 0,.i .i64 0,.i .i64 0,.s ⟨#[]⟩,.i .i64 0,.i .i64 0,.i .i64 0,.s ⟨#[]⟩,.i .i64 0,.i .i64 0,.i .i64 0,.s ⟨#[]⟩,.i .i64 0,.i .i64 0,.i .i64 0,.s ⟨#[]⟩,.i .i64 0,.i .i64 0,.i .i64 0,.s ⟨#[]⟩,.i .i64 0,.i .i64 0,.i .i64 0,.s ⟨#[]⟩,.i .i64 0,.i .i64 0,.i .i64 0,.s ⟨#[]⟩,.i .i64 0,.i .i64 0,.i .i64 0,.s ⟨#[]⟩,.i .i64 0,.i .i64 0,.i .i64 0,.s ⟨#[]⟩,.i .i64 0,.i .i64 0,.i .i64 0,.s ⟨#[]⟩,.i .i64 0,.i .i64 0,.i .i64 0,.s ⟨#[]⟩,.i .i64 0,.i .i64 0,.i .i64 0,.s ⟨#[]⟩,.i .i64 0,.i .i64 0,.i .i64 0] [(4,4,.t 1),(8,4,.t 2),(12,4,.t 3),(16,4,.t 4),(20,4,.t 5),(24,4,.t 6),(28,4,.t 7),(32,4,.t 8),(36,4,.t 9),(40,4,.t 10),(44,4,.t 11),(48,4,.t 12),(52,4,.t 13),(56,4,.t 14),(60,4,.t 15),(64,4,.t 16),(68,4,.t 17),(72,4,.t 18),(76,4,.t 19),(80,4,.t 20)],0⟩,oS 84 0 21 0])
 (.cut [0] [0] .ret))⟩
theorem ok107 : okFn Tryd.prog 3 Tryd.f107 a107 = true := by kernel_rfl
def a108 : AFn := ⟨2,15,[.t 4],
    .seq (.reg false [oU 4 0])
 (.seq (.seq (.reg false [oM 5 1 0,oY 6 .eql 5 0 0])
 (.ite (.t 6) (.reg false [oM 7 0 0,oC 8 0 115 [.t 7] 0,oM 0 8 0]) (.seq (.reg false [oM 9 1 0,oY 10 .lss 9 0 0])
 (.ite (.t 10) (.reg false [oM 11 0 0,⟨some 12,none,.pop .fneg [.t 11],0⟩,oM 0 12 0]) (.skip)))))
 (.cut [0] [] (.seq (.reg false [oM 13 0 0,⟨some 14,none,.pop (.fcmp .gtr) [.t 13,.k (.f .f64 9218868437227405311)],0⟩,oM 4 14 0])
 (.cut [4] [] .ret))))⟩
theorem ok108 : okFn Tryd.prog 3 Tryd.f108 a108 = true := by kernel_rfl
def a109 : AFn := ⟨1,6,[.t 2],
    .seq (.reg false [oU 2 0])
 (.seq (.reg false [oM 3 0 0,oM 4 0 0,⟨some 5,none,.pop (.fcmp .neq) [.t 3,.t 4],0⟩,oM 2 5 0])
 (.cut [2] [] .ret))⟩
theorem ok109 : okFn Tryd.prog 3 Tryd.f109 a109 = true := by kernel_rfl
def a110 : AFn := ⟨1,10,[.t 2,.t 3],
    .seq (.reg false [⟨some 2,none,.mv (.k (.f .f64 0)),0⟩,oI 3 0 0])
 (.seq (.seq (.reg false [oM 4 0 0,oC 5 0 115 [.t 4] 0,⟨some 6,none,.pop (.fcmp .lss) [.t 5,.k (.f .f64 4503599627370496)],0⟩])
 (.ite (.t 6) (.seq (.reg false [oM 7 0 0,⟨some 8,none,.pop (.fbin .mul) [.t 7,.k (.f .f64 4841369599423283200)],0⟩,oM 2 8 0,oI 3 0 (-52)])
 (.cut [2,3] [] .ret)) (.skip)))
 (.cut [0] [] (.seq (.reg false [oM 9 0 0,oM 2 9 0,oI 3 0 0])
 (.cut [2,3] [] .ret))))⟩
theorem ok110 : okFn Tryd.prog 3 Tryd.f110 a110 = true := by kernel_rfl
def a111 : AFn := ⟨2,13,[.t 4],
    .seq (.reg false [⟨some 4,none,.mv (.k (.f .f64 0)),0⟩])
 (.seq (.reg false [oM 5 0 0,⟨some 6,none,.pop .fbits [.t 5],0⟩,⟨some 7,none,.bin .andNot (.t 6) (.k (.i .u64 9223372036854775808)),0⟩,oM 8 1 0,⟨some 9,none,.pop .fbits [.t 8],0⟩,⟨some 10,none,.bin .and (.t 9) (.k (.i .u64 9223372036854775808)),0⟩,oX 11 .or 7 10 0,⟨some 12,none,.pop .ffrom [.t 11],0⟩,oM 4 12 0])
 (.cut [4] [] .ret))⟩
theorem ok111 : okFn Tryd.prog 3 Tryd.f111 a111 = true := by kernel_rfl
def a112 : AFn := ⟨1,8,[.t 2],
    .seq (.reg false [⟨some 2,none,.mv (.k (.f .f64 0)),0⟩])
 (.seq (.reg false [⟨some 3,none,.mv (.k (.i .u64 0)),0⟩])
 (.seq (.seq (.reg false [oM 4 0 0,oY 5 .geq 4 0 0])
 (.ite (.t 5) (.reg false [⟨some 3,none,.mv (.k (.i .u64 9218868437227405312)),0⟩]) (.reg false [⟨some 3,none,.mv (.k (.i .u64 18442240474082181120)),0⟩])))
 (.cut [3] [] (.seq (.reg false [oM 6 3 0,⟨some 7,none,.pop .ffrom [.t 6],0⟩,oM 2 7 0])
 (.cut [2] [] .ret)))))⟩
theorem ok112 : okFn Tryd.prog 3 Tryd.f112 a112 = true := by kernel_rfl
end Go.Proofs.YtbbikmfjnanpmaaDoor.Ab
