/- The functions,for the abstract machine. Written by gen.py. No condition. -/
import Derived.Test.YtogkkamlmklpkaaDoorAC
import Derived.Test.YtogkkamlmklpkaaDoorProg
set_option linter.unusedVariables false
set_option maxRecDepth 100000
namespace Go.Proofs.YtogkkamlmklpkaaDoor.Ab
open Go
def oM (d x m : Nat) : AOper := ⟨some d, none, .mv (.t x), m⟩
def oL (d x m : Nat) : AOper := ⟨some d, none, .load none (.t x), m⟩
def oJ (d t x m : Nat) : AOper := ⟨some d, none, .load (some t) (.t x), m⟩
def oF (d i x m : Nat) : AOper := ⟨some d, none, .fadr i (.t x), m⟩
def oS (t x y m : Nat) : AOper := ⟨none, none, .store t (.t x) (.t y), m⟩
def oA (d t x y m : Nat) : AOper := ⟨some d, none, .iadr t (.t x) (.t y), m⟩
def oP (d x y m : Nat) : AOper := ⟨some d, none, .pick (.t x) (.k (.b true)) (.t y), m⟩
def oE (d x i m : Nat) : AOper := ⟨some d, none, .ext (.t x) i, m⟩
def oB (d t x m : Nat) : AOper := ⟨some d, none, .box true t (.t x), m⟩
def oQ (d x y m : Nat) : AOper := ⟨some d, none, .pick (.t x) (.t y) (.k (.b false)), m⟩
def oN (d x m : Nat) : AOper := ⟨some d, none, .un .not (.t x), m⟩
def oT (d m : Nat) : AOper := ⟨some d, none, .mv (.k (.b true)), m⟩
def oU (d m : Nat) : AOper := ⟨some d, none, .mv (.k (.b false)), m⟩
def oG (d x m : Nat) : AOper := ⟨some d, none, .len false (.t x), m⟩
def oI (d m : Nat) (z : Int) : AOper := ⟨some d, none, .mv (.k (.i .i64 z)), m⟩
def oC (d g f : Nat) (l : List AX) (m : Nat) : AOper := ⟨some d, none, .call g (.k (.fn (.func f) [] [])) l, m⟩
def oX (d : Nat) (o : BinOp) (x y m : Nat) : AOper := ⟨some d, none, .bin o (.t x) (.t y), m⟩
def oY (d : Nat) (o : BinOp) (x m : Nat) (z : Int) : AOper := ⟨some d, none, .bin o (.t x) (.k (.i .i64 z)), m⟩
def gf (g : Nat) : AOper → AOper | ⟨d, _, o, m⟩ => ⟨d, some (g, false), o, m⟩
def gt (g : Nat) : AOper → AOper | ⟨d, _, o, m⟩ => ⟨d, some (g, true), o, m⟩
def a5L0 : AC := .cutg 2 [3,4,9,11,12,13,14,15,16,17,18] [4,9,11] (.seq (.seq (.reg false [oM 63 18 0,oM 64 3 0,oG 65 64 0,oX 66 .lss 63 65 0])
 (.ite (.t 66) (.skip) (.cutg 2 [3,4,9,11,12,13,14,15,16,17] [4,9,11] (.exit 2))))
 (.cutg 2 [3,4,9,11,12,13,14,15,16,17,18] [4,9,11] (.seq (.blk 3 (.reg false [oM 69 17 0,oM 70 69 0,gf 70 (oM 71 3 0),gf 70 (oM 72 18 0),gf 70 (oA 73 1 71 72 0),gf 70 (oL 74 73 0),gf 70 (oM 75 16 0),gf 70 (oX 76 .eql 74 75 0),oP 77 70 76 0,oM 17 77 0]))
 (.cutg 2 [3,4,9,11,12,13,14,15,16,17,18] [4,9,11] (.reg false [oM 67 18 0,oY 68 .add 67 0 1,oM 18 68 0])))))
def a5L1 : AC := .cutg 2 [3,4,9,11,12,13,14,15,16] [4,9,11] (.seq (.seq (.reg false [oM 57 16 0,oF 58 0 4 0,oL 59 58 0,oX 60 .lss 57 59 0])
 (.ite (.t 60) (.skip) (.cutg 2 [3,4,9,11,12,13,14,15] [4,9,11] (.exit 0))))
 (.cutg 2 [3,4,9,11,12,13,14,15,16] [4,9,11] (.seq (.blk 1 (.seq (.reg false [oU 17 0])
 (.seq (.seq (.reg false [oI 18 0 0])
 (.blk 2 (.loop a5L0)))
 (.cutg 2 [3,4,9,11,12,13,14,15,16,17] [4,9,11] (.seq (.reg false [oM 78 17 0,oN 79 78 0])
 (.ite (.t 79) (.reg false [oM 80 15 0,oM 81 16 0,⟨some 82,none,.bslice 3 1 1 [.i .i64 0] [(0,1,.t 81)],0⟩,⟨some 83,none,.app 3 1 8 (.t 80) (.t 82),0⟩,oM 15 83 0]) (.skip)))))))
 (.cutg 2 [3,4,9,11,12,13,14,15,16] [4,9,11] (.reg false [oM 61 16 0,oY 62 .add 61 0 1,oM 16 62 0])))))
def a5 : AFn := ⟨4,137,[.t 8],
    .seq (.reg false [oB 4 24 0 0,oU 8 0])
 (.seq (.reg false [oJ 22 3 4 0,oM 23 1 0,oM 24 2 0,oC 25 0 20 [.t 22,.t 23,.t 24] 0,oM 21 25 0,oE 26 21 0 0,oE 27 21 1 0,⟨some 9,none,.alloc true 24 [.i .i64 0,.sl none 0 (.ex 0),.sl none 0 (.ex 0)],0⟩,oS 3 9 26 0,oM 10 27 0])
 (.seq (.seq (.reg false [oM 28 10 0,oC 29 0 13 [.t 28] 0,oY 30 .neq 29 0 0])
 (.ite (.t 30) (.seq (.reg false [oF 31 0 9 0,oL 32 31 0,oY 33 .eql 32 0 0,oM 34 33 0,gt 34 (oF 35 1 9 0),gt 34 (oL 36 35 0),gt 34 (oG 37 36 0),gt 34 (oY 38 .eql 37 0 0),oQ 39 34 38 0,oM 40 39 0,gt 40 (oC 41 0 16 [] 0),oQ 42 40 41 0,oM 8 42 0])
 (.cutg 2 [8] [] .ret)) (.skip)))
 (.cutg 2 [1,2,3,4,9] [4,9] (.seq (.reg true [oJ 44 3 9 0,oM 45 1 0,oC 46 0 21 [.t 45] 2,oM 47 2 0,oC 48 0 20 [.t 44,.t 46,.t 47] 15,oM 43 48 31,oE 49 43 0 63,oE 50 43 1 63,⟨some 11,none,.alloc true 24 [.i .i64 0,.sl none 0 (.ex 0),.sl none 0 (.ex 0)],0⟩,oS 3 11 49 383,oM 12 50 1023])
 (.seq (.reg false [oJ 52 3 4 0,oM 53 3 0,oC 54 0 22 [.t 52,.t 53] 0,oM 51 54 0,oE 55 51 0 0,oE 56 51 1 0,oM 13 55 0,oM 14 56 0])
 (.seq (.reg false [⟨some 15,none,.mv (.k (.sl none 0 (.ex 0))),0⟩])
 (.seq (.seq (.reg false [oI 16 0 0])
 (.blk 0 (.loop a5L1)))
 (.cutg 2 [3,4,9,11,12,13,14,15] [4,9,11] (.seq (.reg false [oJ 85 3 4 0,oM 86 15 0,oC 87 0 22 [.t 85,.t 86] 0,oM 84 87 0,oE 88 84 0 0,oE 89 84 1 0,oM 19 88 0,oM 20 89 0])
 (.seq (.seq (.reg false [oM 90 12 0,oC 91 0 13 [.t 90] 0,oY 92 .neq 91 0 0,oM 93 92 0,gf 93 (oJ 94 3 11 0),gf 93 (oJ 95 3 4 0),gf 93 (oC 96 0 15 [.t 94,.t 95] 0),gf 93 (oN 97 96 0),oP 98 93 97 0,oM 99 98 0,gf 99 (oJ 100 3 9 0),gf 99 (oC 101 0 14 [.t 100] 0),gf 99 (oC 102 0 13 [.t 101] 0),gf 99 (oY 103 .neq 102 0 0),oP 104 99 103 0,oM 105 104 0,gf 105 (oM 106 20 0),gf 105 (oC 107 0 13 [.t 106] 0),gf 105 (oY 108 .neq 107 0 0),oP 109 105 108 0])
 (.ite (.t 109) (.seq (.reg false [oU 8 0])
 (.cutg 2 [8] [] .ret)) (.skip)))
 (.cutg 2 [3,13,14,15,19] [] (.seq (.reg false [oM 110 14 0,oC 111 0 13 [.t 110] 0,oY 112 .neq 111 0 0,oM 113 112 0,gf 113 (oM 114 13 0),gf 113 (oM 115 19 0),gf 113 (oX 116 .eql 114 115 0),gf 113 (oM 117 116 0),gt 117 (oM 118 13 0),gt 117 (oY 119 .geq 118 0 0),gf 113 (oQ 120 117 119 0),gf 113 (oM 121 120 0),gt 121 (oM 122 13 0),gt 121 (oM 123 3 0),gt 121 (oG 124 123 0),gt 121 (oX 125 .leq 122 124 0),gf 113 (oQ 126 121 125 0),gf 113 (oM 127 126 0),gt 127 (oM 128 13 0),gt 127 (oM 129 15 0),gt 127 (oG 130 129 0),gt 127 (oX 131 .leq 128 130 0),gf 113 (oQ 132 127 131 0),oP 133 113 132 0,oM 134 133 0,gt 134 (oC 135 0 16 [] 0),oQ 136 134 135 0,oM 8 136 0])
 (.cutg 2 [8] [] .ret)))))))))))))⟩
theorem ok5 : okFn Tryd.prog 2 Tryd.f5 a5 = true := by kernel_rfl
def a11L0 : AC := .cutg 2 [0,2,4,15,16] [2,4] (.seq (.reg false [oX 17 .lss 16 15 0])
 (.seq (.ite (.t 17) (.skip) (.cutg 2 [2,4] [2,4] (.exit 0)))
 (.cutg 2 [0,2,4,15,16] [2,4] (.seq (.blk 1 (.seq (.reg false [oM 18 16 0,oM 5 18 0])
 (.seq (.reg true [oF 19 1 4 0,oL 20 19 1,oM 21 0 0,oM 22 5 0,⟨some 23,none,.bin .shl (.k (.i .u64 1)) (.t 22),8⟩,⟨some 24,none,.build [.i .i64 0,.i .u64 0,.i .u64 0,.i .i64 0] [(0,1,.t 21),(2,1,.t 23)],28⟩,⟨some 25,none,.bslice 39 4 1 [.i .i64 0,.i .u64 0,.i .u64 0,.i .i64 0] [(0,4,.t 24)],60⟩,⟨some 26,none,.app 39 4 32 (.t 20) (.t 25),127⟩,oF 27 1 4 255,oS 1 27 26 511])
 (.reg true [oF 28 2 4 0,oL 29 28 1,oM 30 0 0,oM 31 5 0,⟨some 32,none,.bin .shl (.k (.i .u64 1)) (.t 31),8⟩,⟨some 33,none,.build [.i .i64 0,.i .u64 0,.i .u64 0,.i .i64 0] [(0,1,.t 30),(1,1,.t 32)],28⟩,⟨some 34,none,.bslice 39 4 1 [.i .i64 0,.i .u64 0,.i .u64 0,.i .i64 0] [(0,4,.t 33)],60⟩,⟨some 35,none,.app 39 4 32 (.t 29) (.t 34),127⟩,oF 36 2 4 255,oS 1 36 35 511]))))
 (.cutg 2 [0,2,4,15,16] [2,4] (.reg false [oY 37 .add 16 0 1,oM 16 37 0]))))))
def a11 : AFn := ⟨1,39,[.cell 2 (some 3),.t 3],
    .seq (.reg false [⟨some 2,none,.alloc true 24 [.i .i64 0,.sl none 0 (.ex 0),.sl none 0 (.ex 0)],0⟩,oI 3 0 0])
 (.seq (.seq (.reg false [oM 6 0 0,oY 7 .lss 6 0 0,oM 8 7 0,gf 8 (oM 9 0 0),gf 8 (oY 10 .gtr 9 0 64),oP 11 8 10 0])
 (.ite (.t 11) (.seq (.reg false [⟨some 12,none,.build [.i .i64 0,.sl none 0 (.ex 0),.sl none 0 (.ex 0)] [],0⟩,oS 3 2 12 0,oI 3 0 2])
 (.cutg 2 [2,3] [2] .ret)) (.skip)))
 (.cutg 2 [0,2] [2] (.seq (.reg false [oM 13 0 0,⟨some 14,none,.build [.i .i64 0,.sl none 0 (.ex 0),.sl none 0 (.ex 0)] [(0,1,.t 13)],0⟩,⟨some 4,none,.alloc true 24 [.i .i64 0,.sl none 0 (.ex 0),.sl none 0 (.ex 0)],0⟩,oS 3 4 14 0])
 (.seq (.seq (.reg false [oM 15 0 0,oI 16 0 0])
 (.blk 0 (.loop a11L0)))
 (.cutg 2 [2,4] [2,4] (.seq (.reg false [oJ 38 3 4 0,oS 3 2 38 0,oI 3 0 0])
 (.cutg 2 [2,3] [2] .ret)))))))⟩
theorem ok11 : okFn Tryd.prog 2 Tryd.f11 a11 = true := by kernel_rfl
def a13 : AFn := ⟨1,4,[.t 2],
    .seq (.reg false [oI 2 0 0])
 (.seq (.reg false [oM 3 0 0,oM 2 3 0])
 (.cut [2] [] .ret))⟩
theorem ok13 : okFn Tryd.prog 2 Tryd.f13 a13 = true := by kernel_rfl
def a14L0 : AC := .cutg 2 [1,33,34,47,48,49] [1] (.seq (.reg false [oX 50 .lss 49 48 0])
 (.seq (.ite (.t 50) (.skip) (.cutg 2 [1,33,34] [1] (.exit 2)))
 (.cutg 2 [1,33,34,47,48,49] [1] (.seq (.blk 3 (.seq (.reg false [oA 51 4 47 49 0,oJ 52 4 51 0,⟨some 5,none,.alloc true 39 [.i .i64 0,.i .u64 0,.i .u64 0,.i .i64 0],0⟩,oS 4 5 52 0])
 (.seq (.reg false [oF 53 0 5 0,oL 54 53 0,oF 55 0 1 0,oL 56 55 0,oX 57 .neq 54 56 0,oM 58 57 0,gf 58 (oJ 59 4 5 0),gf 58 (oC 60 0 39 [.t 59] 0),gf 58 (oN 61 60 0),oP 62 58 61 0])
 (.ite (.t 62) (.seq (.reg false [oI 2 0 140])
 (.cutg 2 [2] [] .ret)) (.skip)))))
 (.cutg 2 [1,33,34,47,48,49] [1] (.reg false [oY 63 .add 49 0 1,oM 49 63 0]))))))
def a14L1 : AC := .cutg 2 [1,33,34] [1] (.seq (.reg false [oX 35 .lss 34 33 0])
 (.seq (.ite (.t 35) (.skip) (.cutg 2 [1] [1] (.exit 0)))
 (.cutg 2 [1,33,34] [1] (.seq (.blk 1 (.seq (.reg false [oM 36 34 0,oM 3 36 0])
 (.seq (.reg true [oF 37 1 1 0,oL 38 37 1,oM 39 3 0,oA 40 4 38 39 7,oJ 41 4 40 15,oF 42 2 1 0,oL 43 42 32,oM 44 3 0,oA 45 4 43 44 224,oJ 46 4 45 480,⟨some 47,none,.bslice 39 4 2 [.i .i64 0,.i .u64 0,.i .u64 0,.i .i64 0,.i .i64 0,.i .u64 0,.i .u64 0,.i .i64 0] [(0,4,.t 41),(4,4,.t 46)],1023⟩,oG 48 47 2047,oI 49 0 0])
 (.blk 2 (.loop a14L0)))))
 (.cutg 2 [1,33,34] [1] (.reg false [oY 64 .add 34 0 1,oM 34 64 0]))))))
def a14L2 : AC := .cutg 2 [1,6,66,67,71,72] [1] (.seq (.reg false [oX 73 .lss 72 71 0])
 (.seq (.ite (.t 73) (.skip) (.cutg 2 [1,66,67] [1] (.exit 6)))
 (.cutg 2 [1,6,66,67,71,72] [1] (.seq (.blk 7 (.seq (.reg false [oM 74 72 0,oM 7 74 0])
 (.seq (.reg true [oF 75 1 1 0,oL 76 75 1,oM 77 6 0,oA 78 4 76 77 7,oJ 79 4 78 15,oF 80 1 1 0,oL 81 80 32,oM 82 7 0,oA 83 4 81 82 224,oJ 84 4 83 480,oC 85 0 40 [.t 79,.t 84] 1023,oN 86 85 2047,oM 87 86 4095,gf 87 (oF 88 2 1 8191),gf 87 (oL 89 88 16383),gf 87 (oM 90 6 8191),gf 87 (oA 91 4 89 90 65535),gf 87 (oJ 92 4 91 131071),gf 87 (oF 93 2 1 8191),gf 87 (oL 94 93 270335),gf 87 (oM 95 7 8191),gf 87 (oA 96 4 94 95 1843199),gf 87 (oJ 97 4 96 3940351),gf 87 (oC 98 0 40 [.t 92,.t 97] 8388607),gf 87 (oN 99 98 16777215),oP 100 87 99 33554431,oM 101 100 67108863,gf 101 (oF 102 2 1 134217727),gf 101 (oL 103 102 268435455),gf 101 (oM 104 6 134217727),gf 101 (oA 105 4 103 104 1073741823),gf 101 (oJ 106 4 105 2147483647),gf 101 (oF 107 1 1 134217727),gf 101 (oL 108 107 4429185023),gf 101 (oM 109 7 134217727),gf 101 (oA 110 4 108 109 30198988799),gf 101 (oJ 111 4 110 64558727167),gf 101 (oC 112 0 40 [.t 106,.t 111] 137438953471),gf 101 (oM 113 6 134217727),gf 101 (oM 114 7 134217727),gf 101 (oX 115 .eql 113 114 824767938559),gf 101 ⟨some 116,none,.eqb false (.t 112) (.t 115),2199023255551⟩,oP 117 101 116 4398046511103])
 (.ite (.t 117) (.seq (.reg false [oI 2 0 140])
 (.cutg 2 [2] [] .ret)) (.skip)))))
 (.cutg 2 [1,6,66,67,71,72] [1] (.reg false [oY 118 .add 72 0 1,oM 72 118 0]))))))
def a14L3 : AC := .cutg 2 [1,66,67] [1] (.seq (.reg false [oX 68 .lss 67 66 0])
 (.seq (.ite (.t 68) (.skip) (.cutg 2 [] [] (.exit 4)))
 (.cutg 2 [1,66,67] [1] (.seq (.blk 5 (.seq (.reg false [oM 69 67 0,oM 6 69 0])
 (.seq (.reg false [oF 70 0 1 0,oL 71 70 0,oI 72 0 0])
 (.blk 6 (.loop a14L2)))))
 (.cutg 2 [1,66,67] [1] (.reg false [oY 119 .add 67 0 1,oM 67 119 0]))))))
def a14 : AFn := ⟨1,120,[.t 2],
    .seq (.reg false [oB 1 24 0 0,oI 2 0 0])
 (.seq (.seq (.reg false [oF 8 0 1 0,oL 9 8 0,oY 10 .lss 9 0 0,oM 11 10 0,gf 11 (oF 12 0 1 0),gf 11 (oL 13 12 0),gf 11 (oY 14 .gtr 13 0 64),oP 15 11 14 0,oM 16 15 0,gf 16 (oF 17 1 1 0),gf 16 (oL 18 17 0),gf 16 (oG 19 18 0),gf 16 (oF 20 0 1 0),gf 16 (oL 21 20 0),gf 16 (oX 22 .neq 19 21 0),oP 23 16 22 0,oM 24 23 0,gf 24 (oF 25 2 1 0),gf 24 (oL 26 25 0),gf 24 (oG 27 26 0),gf 24 (oF 28 0 1 0),gf 24 (oL 29 28 0),gf 24 (oX 30 .neq 27 29 0),oP 31 24 30 0])
 (.ite (.t 31) (.seq (.reg false [oI 2 0 140])
 (.cutg 2 [2] [] .ret)) (.skip)))
 (.cutg 2 [1] [1] (.seq (.seq (.reg false [oF 32 0 1 0,oL 33 32 0,oI 34 0 0])
 (.blk 0 (.loop a14L1)))
 (.cutg 2 [1] [1] (.seq (.seq (.reg false [oF 65 0 1 0,oL 66 65 0,oI 67 0 0])
 (.blk 4 (.loop a14L3)))
 (.cutg 2 [] [] (.seq (.reg false [oI 2 0 0])
 (.cutg 2 [2] [] .ret))))))))⟩
theorem ok14 : okFn Tryd.prog 2 Tryd.f14 a14 = true := by kernel_rfl
def a15 : AFn := ⟨2,24,[.t 4],
    .seq (.reg false [oB 2 24 0 0,oB 3 24 1 0,oU 4 0])
 (.seq (.reg false [oF 5 0 2 0,oL 6 5 0,oF 7 0 3 0,oL 8 7 0,oX 9 .eql 6 8 0,oM 10 9 0,gt 10 (oF 11 1 2 0),gt 10 (oL 12 11 0),gt 10 (oF 13 1 3 0),gt 10 (oL 14 13 0),gt 10 (oC 15 0 41 [.t 12,.t 14] 0),oQ 16 10 15 0,oM 17 16 0,gt 17 (oF 18 2 2 0),gt 17 (oL 19 18 0),gt 17 (oF 20 2 3 0),gt 17 (oL 21 20 0),gt 17 (oC 22 0 41 [.t 19,.t 21] 0),oQ 23 17 22 0,oM 4 23 0])
 (.cut [4] [] .ret))⟩
theorem ok15 : okFn Tryd.prog 2 Tryd.f15 a15 = true := by kernel_rfl
def a16 : AFn := ⟨0,209,[.t 0],
    .seq (.reg false [oU 0 0])
 (.seq (.reg false [oC 24 0 11 [.k (.i .i64 2)] 0,oM 23 24 0,oE 25 23 0 0,oE 26 23 1 0,⟨some 1,none,.alloc true 24 [.i .i64 0,.sl none 0 (.ex 0),.sl none 0 (.ex 0)],0⟩,oS 3 1 25 0,oM 2 26 0])
 (.seq (.reg false [oJ 28 3 1 0,⟨some 29,none,.bslice 3 1 1 [.i .i64 0] [(0,1,.k (.i .i64 0))],0⟩,oC 30 0 20 [.t 28,.k (.i .i64 9),.t 29] 0,oM 27 30 0,oE 31 27 0 0,oE 32 27 1 0,oS 3 1 31 0,oM 3 32 0])
 (.seq (.reg false [oJ 34 3 1 0,⟨some 35,none,.bslice 3 1 2 [.i .i64 0,.i .i64 0] [(0,1,.k (.i .i64 0)),(1,1,.k (.i .i64 1))],0⟩,oC 36 0 20 [.t 34,.k (.i .i64 11),.t 35] 0,oM 33 36 0,oE 37 33 0 0,oE 38 33 1 0,oS 3 1 37 0,oM 4 38 0])
 (.seq (.reg false [oJ 40 3 1 0,oC 41 0 23 [.t 40,.k (.i .i64 0)] 0,oM 39 41 0,oE 42 39 0 0,oE 43 39 1 0,oM 5 42 0,oM 6 43 0])
 (.seq (.reg false [oJ 45 3 1 0,oC 46 0 24 [.t 45,.k (.i .i64 0),.k (.i .i64 1)] 0,oM 44 46 0,oE 47 44 0 0,oE 48 44 1 0,⟨some 7,none,.alloc true 24 [.i .i64 0,.sl none 0 (.ex 0),.sl none 0 (.ex 0)],0⟩,oS 3 7 47 0,oM 8 48 0])
 (.seq (.reg false [oJ 50 3 7 0,oC 51 0 23 [.t 50,.k (.i .i64 1)] 0,oM 49 51 0,oE 52 49 0 0,oE 53 49 1 0,oM 9 52 0,oM 10 53 0])
 (.seq (.reg false [oJ 55 3 7 0,oC 56 0 24 [.t 55,.k (.i .i64 1),.k (.i .i64 0)] 0,oM 54 56 0,oE 57 54 0 0,oE 58 54 1 0,⟨some 11,none,.alloc true 24 [.i .i64 0,.sl none 0 (.ex 0),.sl none 0 (.ex 0)],0⟩,oS 3 11 57 0,oM 12 58 0])
 (.seq (.reg false [oJ 60 3 1 0,oC 61 0 42 [.t 60] 0,oM 59 61 0,oE 62 59 0 0,oE 63 59 1 0,oM 13 62 0,oM 14 63 0])
 (.seq (.reg false [oJ 65 3 1 0,⟨some 66,none,.bslice 3 1 1 [.i .i64 0] [(0,1,.k (.i .i64 0))],0⟩,oC 67 0 22 [.t 65,.t 66] 0,oM 64 67 0,oE 68 64 0 0,oE 69 64 1 0,oM 15 68 0,oM 16 69 0])
 (.seq (.reg false [oJ 71 3 1 0,⟨some 72,none,.build [.i .i64 0,.i .u64 0,.i .u64 0,.i .i64 0] [(0,1,.k (.i .i64 2)),(1,1,.k (.i .u64 3)),(2,1,.k (.i .u64 3)),(3,1,.k (.i .i64 2))],0⟩,oC 73 0 25 [.t 71,.t 72] 0,oM 70 73 0,oE 74 70 0 0,oE 75 70 1 0,oM 17 74 0,oM 18 75 0])
 (.seq (.seq (.reg false [oM 76 2 0,oC 77 0 13 [.t 76] 0,oY 78 .neq 77 0 0,oM 79 78 0,gf 79 (oM 80 3 0),gf 79 (oC 81 0 13 [.t 80] 0),gf 79 (oY 82 .neq 81 0 0),oP 83 79 82 0,oM 84 83 0,gf 84 (oM 85 4 0),gf 84 (oC 86 0 13 [.t 85] 0),gf 84 (oY 87 .neq 86 0 0),oP 88 84 87 0,oM 89 88 0,gf 89 (oM 90 6 0),gf 89 (oC 91 0 13 [.t 90] 0),gf 89 (oY 92 .neq 91 0 0),oP 93 89 92 0,oM 94 93 0,gf 94 (oM 95 8 0),gf 94 (oC 96 0 13 [.t 95] 0),gf 94 (oY 97 .neq 96 0 0),oP 98 94 97 0,oM 99 98 0,gf 99 (oM 100 10 0),gf 99 (oC 101 0 13 [.t 100] 0),gf 99 (oY 102 .neq 101 0 0),oP 103 99 102 0,oM 104 103 0,gf 104 (oM 105 14 0),gf 104 (oC 106 0 13 [.t 105] 0),gf 104 (oY 107 .neq 106 0 0),oP 108 104 107 0,oM 109 108 0,gf 109 (oM 110 16 0),gf 109 (oC 111 0 13 [.t 110] 0),gf 109 (oY 112 .neq 111 0 0),oP 113 109 112 0,oM 114 113 0,gf 114 (oM 115 18 0),gf 114 (oC 116 0 13 [.t 115] 0),gf 114 (oY 117 .neq 116 0 0),oP 118 114 117 0,oM 119 118 0,gf 119 (oF 120 1 1 0),gf 119 (oL 121 120 0),gf 119 (oG 122 121 0),gf 119 (oY 123 .neq 122 0 2),oP 124 119 123 0,oM 125 124 0,gf 125 (oM 126 13 0),gf 125 (oG 127 126 0),gf 125 (oY 128 .neq 127 0 2),oP 129 125 128 0,oM 130 129 0,gf 130 (oF 131 1 7 0),gf 130 (oL 132 131 0),gf 130 (oG 133 132 0),gf 130 (oY 134 .neq 133 0 2),oP 135 130 134 0])
 (.ite (.t 135) (.seq (.reg false [oU 0 0])
 (.cutg 2 [0] [] .ret)) (.skip)))
 (.cutg 2 [1,5,7,9,12,13,15,17] [1,7] (.seq (.reg false [oJ 137 3 1 0,⟨some 138,none,.bslice 3 1 3 [.i .i64 0,.i .i64 0,.i .i64 0] [(0,1,.k (.i .i64 0)),(1,1,.k (.i .i64 1)),(2,1,.k (.i .i64 2))],0⟩,oC 139 0 20 [.t 137,.k (.i .i64 18),.t 138] 0,oM 136 139 0,oE 140 136 0 0,oE 141 136 1 0,⟨some 19,none,.alloc true 24 [.i .i64 0,.sl none 0 (.ex 0),.sl none 0 (.ex 0)],0⟩,oS 3 19 140 0,oM 20 141 0])
 (.seq (.reg false [oJ 143 3 1 0,oC 144 0 43 [.t 143,.k (.i .i64 0),.k (.i .i64 1)] 0,oM 142 144 0,oE 145 142 0 0,oE 146 142 1 0,⟨some 21,none,.alloc true 24 [.i .i64 0,.sl none 0 (.ex 0),.sl none 0 (.ex 0)],0⟩,oS 3 21 145 0,oM 22 146 0])
 (.seq (.reg false [oM 147 5 0,oY 148 .eql 147 0 2,oM 149 148 0,gt 149 (oM 150 9 0),gt 149 (oY 151 .eql 150 0 1),oQ 152 149 151 0,oM 153 152 0,gt 153 (oM 154 12 0),gt 153 (oC 155 0 13 [.t 154] 0),gt 153 (oY 156 .eql 155 0 142),oQ 157 153 156 0,oM 158 157 0,gt 158 (oM 159 13 0),gt 158 ⟨some 160,none,.iadr 4 (.t 159) (.k (.i .i64 0)),0⟩,gt 158 (oJ 161 4 160 0),gt 158 ⟨some 162,none,.build [.i .i64 0,.i .u64 0,.i .u64 0,.i .i64 0] [(0,1,.k (.i .i64 2)),(1,1,.k (.i .u64 3))],0⟩,gt 158 ⟨some 163,none,.eqs false [false,false,false,false] (.t 161) (.t 162),0⟩,oQ 164 158 163 0,oM 165 164 0,gt 165 (oM 166 13 0),gt 165 ⟨some 167,none,.iadr 4 (.t 166) (.k (.i .i64 1)),0⟩,gt 165 (oJ 168 4 167 0),gt 165 ⟨some 169,none,.build [.i .i64 0,.i .u64 0,.i .u64 0,.i .i64 0] [(0,1,.k (.i .i64 2)),(2,1,.k (.i .u64 3))],0⟩,gt 165 ⟨some 170,none,.eqs false [false,false,false,false] (.t 168) (.t 169),0⟩,oQ 171 165 170 0,oM 172 171 0,gt 172 (oM 173 15 0),gt 172 (oY 174 .eql 173 0 1),oQ 175 172 174 0,oM 176 175 0,gt 176 (oM 177 17 0),gt 176 (oY 178 .eql 177 0 1),oQ 179 176 178 0,oM 180 179 0,gt 180 (oF 181 1 7 0),gt 180 (oL 182 181 0),gt 180 ⟨some 183,none,.iadr 4 (.t 182) (.k (.i .i64 0)),0⟩,gt 180 (oJ 184 4 183 0),gt 180 ⟨some 185,none,.build [.i .i64 0,.i .u64 0,.i .u64 0,.i .i64 0] [(0,1,.k (.i .i64 2)),(2,1,.k (.i .u64 1)),(3,1,.k (.i .i64 2))],0⟩,gt 180 ⟨some 186,none,.eqs false [false,false,false,false] (.t 184) (.t 185),0⟩,oQ 187 180 186 0,oM 188 187 0,gt 188 (oM 189 20 0),gt 188 (oC 190 0 13 [.t 189] 0),gt 188 (oY 191 .eql 190 0 61),oQ 192 188 191 0,oM 193 192 0,gt 193 (oM 194 22 0),gt 193 (oC 195 0 13 [.t 194] 0),gt 193 (oY 196 .eql 195 0 0),oQ 197 193 196 0,oM 198 197 0,gt 198 (oJ 199 3 21 0),gt 198 (oC 200 0 14 [.t 199] 0),gt 198 (oC 201 0 13 [.t 200] 0),gt 198 (oY 202 .eql 201 0 0),oQ 203 198 202 0,oM 204 203 0,gt 204 (oJ 205 3 1 0),gt 204 (oJ 206 3 1 0),gt 204 (oC 207 0 19 [.t 205,.t 206] 0),oQ 208 204 207 0,oM 0 208 0])
 (.cutg 2 [0] [] .ret))))))))))))))))⟩
theorem ok16 : okFn Tryd.prog 2 Tryd.f16 a16 = true := by kernel_rfl
def a18 : AFn := ⟨2,14,[.cell 4 (some 4),.t 5],
    .seq (.reg false [oB 2 39 0 0,oB 3 39 1 0,⟨some 4,none,.alloc true 39 [.i .i64 0,.i .u64 0,.i .u64 0,.i .i64 0],0⟩,oI 5 0 0])
 (.seq (.seq (.reg false [oJ 6 4 2 0,oJ 7 4 3 0,oC 8 0 44 [.t 6,.t 7] 0,oN 9 8 0])
 (.ite (.t 9) (.seq (.reg false [⟨some 10,none,.build [.i .i64 0,.i .u64 0,.i .u64 0,.i .i64 0] [],0⟩,oS 4 4 10 0,oI 5 0 130])
 (.cut [4,5] [4] .ret)) (.skip)))
 (.cut [2,3,4] [2,3,4] (.seq (.reg false [oJ 11 4 2 0,oJ 12 4 3 0,oC 13 0 45 [.t 11,.t 12] 0,oS 4 4 13 0,oI 5 0 0])
 (.cut [4,5] [4] .ret))))⟩
theorem ok18 : okFn Tryd.prog 2 Tryd.f18 a18 = true := by kernel_rfl
def a19 : AFn := ⟨2,37,[.t 4],
    .seq (.reg false [oB 2 24 0 0,oB 3 24 1 0,oU 4 0])
 (.seq (.reg false [oJ 10 3 2 0,oC 11 0 42 [.t 10] 0,oM 9 11 0,oE 12 9 0 0,oE 13 9 1 0,oM 5 12 0,oM 6 13 0])
 (.seq (.reg false [oJ 15 3 3 0,oC 16 0 42 [.t 15] 0,oM 14 16 0,oE 17 14 0 0,oE 18 14 1 0,oM 7 17 0,oM 8 18 0])
 (.seq (.reg false [oM 19 6 0,oY 20 .eql 19 0 0,oM 21 20 0,gt 21 (oM 22 8 0),gt 21 (oY 23 .eql 22 0 0),oQ 24 21 23 0,oM 25 24 0,gt 25 (oF 26 0 2 0),gt 25 (oL 27 26 0),gt 25 (oF 28 0 3 0),gt 25 (oL 29 28 0),gt 25 (oX 30 .eql 27 29 0),oQ 31 25 30 0,oM 32 31 0,gt 32 (oM 33 5 0),gt 32 (oM 34 7 0),gt 32 (oC 35 0 46 [.t 33,.t 34] 0),oQ 36 32 35 0,oM 4 36 0])
 (.cut [4] [] .ret))))⟩
theorem ok19 : okFn Tryd.prog 2 Tryd.f19 a19 = true := by kernel_rfl
def a20 : AFn := ⟨3,43,[.cell 6 (some 3),.t 7],
    .seq (.reg false [oB 3 24 0 0,⟨some 4,none,.box false 43 (.t 1),0⟩,⟨some 5,none,.box false 44 (.t 2),0⟩,⟨some 6,none,.alloc true 24 [.i .i64 0,.sl none 0 (.ex 0),.sl none 0 (.ex 0)],0⟩,oI 7 0 0])
 (.seq (.seq (.reg false [oJ 12 3 3 0,oC 13 0 14 [.t 12] 0,oM 8 13 0])
 (.seq (.reg false [oM 14 8 0,oY 15 .neq 14 0 0])
 (.ite (.t 15) (.seq (.reg false [⟨some 16,none,.build [.i .i64 0,.sl none 0 (.ex 0),.sl none 0 (.ex 0)] [],0⟩,oM 17 8 0,oS 3 6 16 0,oM 7 17 0])
 (.cutg 2 [6,7] [6] .ret)) (.skip))))
 (.cutg 2 [3,4,5,6] [3,6] (.seq (.seq (.reg false [oL 18 4 0,oL 19 5 0,oF 20 0 3 0,oL 21 20 0,oC 22 0 47 [.t 18,.t 19,.t 21] 0,oM 9 22 0])
 (.seq (.reg false [oM 23 9 0,oY 24 .neq 23 0 0])
 (.ite (.t 24) (.seq (.reg false [⟨some 25,none,.build [.i .i64 0,.sl none 0 (.ex 0),.sl none 0 (.ex 0)] [],0⟩,oM 26 9 0,oS 3 6 25 0,oM 7 26 0])
 (.cutg 2 [6,7] [6] .ret)) (.skip))))
 (.cutg 2 [3,4,5,6] [3,6] (.seq (.seq (.reg false [oL 27 4 0,oC 28 0 48 [.t 27] 0,oN 29 28 0])
 (.ite (.t 29) (.seq (.reg false [⟨some 30,none,.build [.i .i64 0,.sl none 0 (.ex 0),.sl none 0 (.ex 0)] [],0⟩,oS 3 6 30 0,oI 7 0 141])
 (.cutg 2 [6,7] [6] .ret)) (.skip)))
 (.cutg 2 [3,4,5,6] [3,6] (.seq (.reg false [oJ 31 3 3 0,oC 32 1 49 [.t 31] 0,⟨some 10,none,.alloc true 24 [.i .i64 0,.sl none 0 (.ex 0),.sl none 0 (.ex 0)],0⟩,oS 3 10 32 0])
 (.seq (.reg false [⟨some 33,none,.mkf (.func 50) [] [.t 4,.t 5],0⟩,oM 11 33 0])
 (.seq (.reg false [oM 34 11 0,oF 35 1 10 0,oL 36 35 0,⟨some 37,none,.call 2 (.t 34) [.t 36],0⟩])
 (.seq (.reg false [oM 38 11 0,oF 39 2 10 0,oL 40 39 0,⟨some 41,none,.call 2 (.t 38) [.t 40],0⟩])
 (.seq (.reg false [oJ 42 3 10 0,oS 3 6 42 0,oI 7 0 0])
 (.cutg 2 [6,7] [6] .ret))))))))))))⟩
theorem ok20 : okFn Tryd.prog 2 Tryd.f20 a20 = true := by kernel_rfl
def a21 : AFn := ⟨1,6,[.t 2],
    .seq (.reg false [oI 2 0 0])
 (.seq (.reg false [oM 3 0 0,oC 4 0 52 [.t 3] 0,⟨some 5,none,.fld 3 none (.t 4),0⟩,oM 2 5 0])
 (.cut [2] [] .ret))⟩
theorem ok21 : okFn Tryd.prog 2 Tryd.f21 a21 = true := by kernel_rfl
def a22L0 : AC := .cutg 2 [1,2,7,25,26,27] [2] (.seq (.reg false [oX 28 .lss 27 26 0])
 (.seq (.ite (.t 28) (.skip) (.cutg 2 [1,2,7] [2] (.exit 0)))
 (.cutg 2 [1,2,7,25,26,27] [2] (.seq (.blk 1 (.seq (.reg false [oA 29 1 25 27 0,oL 30 29 0,oM 9 30 0])
 (.reg false [oM 31 7 0,oM 32 9 0,⟨some 33,none,.bin .shl (.k (.i .u64 1)) (.t 32),0⟩,oX 34 .or 31 33 0,oM 7 34 0])))
 (.cutg 2 [1,2,7,25,26,27] [2] (.reg false [oY 35 .add 27 0 1,oM 27 35 0]))))))
def a22L1 : AC := .cutg 2 [1,2,7,10,40,41] [2] (.seq (.reg false [oX 42 .lss 41 40 0])
 (.seq (.ite (.t 42) (.skip) (.cutg 2 [1,2,10] [2] (.exit 2)))
 (.cutg 2 [1,2,7,10,40,41] [2] (.seq (.blk 3 (.seq (.reg false [oM 43 41 0,oM 11 43 0])
 (.seq (.reg false [oM 44 10 0,oM 45 11 0,oA 46 4 44 45 0,oF 47 1 46 0,oL 48 47 0,oM 49 7 0,oX 50 .and 48 49 0,oA 51 4 44 45 0,oF 52 1 51 0,oS 1 52 50 0])
 (.reg false [oM 53 10 0,oM 54 11 0,oA 55 4 53 54 0,oF 56 2 55 0,oL 57 56 0,oM 58 7 0,oX 59 .and 57 58 0,oA 60 4 53 54 0,oF 61 2 60 0,oS 1 61 59 0]))))
 (.cutg 2 [1,2,7,10,40,41] [2] (.reg false [oY 62 .add 41 0 1,oM 41 62 0]))))))
def a22L2 : AC := .cutg 2 [1,12,66,67,68] [] (.seq (.reg false [oX 69 .lss 68 67 0])
 (.seq (.ite (.t 69) (.skip) (.cutg 2 [1,12] [] (.exit 4)))
 (.cutg 2 [1,12,66,67,68] [] (.seq (.blk 5 (.seq (.reg false [oA 70 4 66 68 0,oJ 71 4 70 0,⟨some 14,none,.alloc true 39 [.i .i64 0,.i .u64 0,.i .u64 0,.i .i64 0],0⟩,oS 4 14 71 0])
 (.seq (.reg false [oF 72 1 14 0,oL 73 72 0,oF 74 2 14 0,oL 75 74 0,oX 76 .or 73 75 0,⟨some 77,none,.bin .neq (.t 76) (.k (.i .u64 0)),0⟩])
 (.ite (.t 77) (.reg false [oM 78 12 0,oY 79 .add 78 0 1,oM 12 79 0]) (.skip)))))
 (.cutg 2 [1,12,66,67,68] [] (.reg false [oY 80 .add 68 0 1,oM 68 80 0]))))))
def a22 : AFn := ⟨2,85,[.t 4,.t 5],
    .seq (.reg false [oB 2 24 0 0,oI 4 0 0,oI 5 0 0])
 (.seq (.seq (.reg false [oJ 15 3 2 0,oC 16 0 14 [.t 15] 0,oM 6 16 0])
 (.seq (.reg false [oM 17 6 0,oY 18 .neq 17 0 0])
 (.ite (.t 18) (.seq (.reg false [oM 19 6 0,oI 4 0 0,oM 5 19 0])
 (.cutg 2 [4,5] [] .ret)) (.skip))))
 (.cutg 2 [1,2] [2] (.seq (.seq (.reg false [oM 20 1 0,oF 21 0 2 0,oL 22 21 0,oC 23 0 53 [.t 20,.t 22] 0,oN 24 23 0])
 (.ite (.t 24) (.seq (.reg false [oI 4 0 0,oI 5 0 2])
 (.cutg 2 [4,5] [] .ret)) (.skip)))
 (.cutg 2 [1,2] [2] (.seq (.reg false [⟨some 7,none,.mv (.k (.i .u64 0)),0⟩])
 (.seq (.seq (.reg false [oM 25 1 0,oG 26 25 0,oI 27 0 0])
 (.blk 0 (.loop a22L0)))
 (.cutg 2 [1,2,7] [2] (.seq (.reg false [oF 36 1 2 0,oL 37 36 0,oC 38 1 54 [.t 37] 0,oM 10 38 0])
 (.seq (.seq (.reg false [oM 39 10 0,oG 40 39 0,oI 41 0 0])
 (.blk 2 (.loop a22L1)))
 (.cutg 2 [1,2,10] [2] (.seq (.reg false [oI 12 0 0])
 (.seq (.seq (.reg false [oM 63 10 0,oF 64 0 2 0,oL 65 64 0,oC 66 0 55 [.t 63,.t 65] 0,oG 67 66 0,oI 68 0 0])
 (.blk 4 (.loop a22L2)))
 (.cutg 2 [1,12] [] (.seq (.reg false [oM 81 12 0,oM 82 1 0,oG 83 82 0,oX 84 .sub 81 83 0,oM 4 84 0,oI 5 0 0])
 (.cutg 2 [4,5] [] .ret)))))))))))))))⟩
theorem ok22 : okFn Tryd.prog 2 Tryd.f22 a22 = true := by kernel_rfl
def a23 : AFn := ⟨2,26,[.t 4,.t 5],
    .seq (.reg false [oB 2 24 0 0,oI 4 0 0,oI 5 0 0])
 (.seq (.seq (.reg false [oJ 7 3 2 0,oM 8 1 0,oC 9 0 56 [.t 7,.t 8] 0,oM 6 9 0])
 (.seq (.reg false [oM 10 6 0,oY 11 .neq 10 0 0])
 (.ite (.t 11) (.seq (.reg false [oM 12 6 0,oI 4 0 0,oM 5 12 0])
 (.cut [4,5] [] .ret)) (.skip))))
 (.cut [1,2] [2] (.seq (.seq (.reg false [oJ 13 3 2 0,oM 14 1 0,oC 15 0 57 [.t 13,.t 14] 0,oY 16 .geq 15 0 0])
 (.ite (.t 16) (.seq (.reg false [oI 4 0 2,oI 5 0 0])
 (.cut [4,5] [] .ret)) (.skip)))
 (.cut [1,2] [2] (.seq (.reg true [oJ 17 3 2 0,oF 18 0 2 0,oL 19 18 2,oM 20 1 0,⟨some 21,none,.bin .shl (.k (.i .u64 1)) (.t 20),8⟩,⟨some 22,none,.build [.i .i64 0,.i .u64 0,.i .u64 0,.i .i64 0] [(0,1,.t 19),(2,1,.t 21)],30⟩,oC 23 0 58 [.t 17,.t 22] 63,⟨some 24,none,.fld 3 none (.t 23),127⟩,oY 25 .quo 24 255 2,oM 4 25 511,oI 5 1023 0])
 (.cut [4,5] [] .ret))))))⟩
theorem ok23 : okFn Tryd.prog 2 Tryd.f23 a23 = true := by kernel_rfl
def a24 : AFn := ⟨3,52,[.cell 6 (some 3),.t 7],
    .seq (.reg false [oB 3 24 0 0,⟨some 6,none,.alloc true 24 [.i .i64 0,.sl none 0 (.ex 0),.sl none 0 (.ex 0)],0⟩,oI 7 0 0])
 (.seq (.reg false [oJ 11 3 3 0,oM 12 1 0,oC 13 0 23 [.t 11,.t 12] 0,oM 10 13 0,oE 14 10 0 0,oE 15 10 1 0,oM 8 14 0,oM 9 15 0])
 (.seq (.blk 0 (.seq (.reg false [oM 17 9 0,oY 18 .neq 17 0 0,oM 16 18 0])
 (.ite (.t 16) (.seq (.reg false [⟨some 19,none,.build [.i .i64 0,.sl none 0 (.ex 0),.sl none 0 (.ex 0)] [],0⟩,oM 20 9 0,oS 3 6 19 0,oM 7 20 0])
 (.cut [6,7] [6] .ret)) (.seq (.reg false [oM 22 2 0,oY 23 .neq 22 0 0,oM 24 23 0,gt 24 (oM 25 2 0),gt 24 (oY 26 .neq 25 0 1),oQ 27 24 26 0,oM 21 27 0])
 (.ite (.t 21) (.seq (.reg false [⟨some 28,none,.build [.i .i64 0,.sl none 0 (.ex 0),.sl none 0 (.ex 0)] [],0⟩,oS 3 6 28 0,oI 7 0 2])
 (.cut [6,7] [6] .ret)) (.seq (.reg false [oM 30 8 0,oM 31 2 0,⟨some 32,none,.bin .sub (.k (.i .i64 1)) (.t 31),0⟩,oX 33 .eql 30 32 0,oM 29 33 0])
 (.ite (.t 29) (.seq (.reg false [⟨some 34,none,.build [.i .i64 0,.sl none 0 (.ex 0),.sl none 0 (.ex 0)] [],0⟩,oS 3 6 34 0,oI 7 0 142])
 (.cut [6,7] [6] .ret)) (.skip))))))))
 (.cut [1,2,3,6,8] [3,6] (.seq (.seq (.reg false [oM 35 8 0,oM 36 2 0,oX 37 .eql 35 36 0])
 (.ite (.t 37) (.seq (.reg false [oJ 38 3 3 0,oC 39 0 49 [.t 38] 0,oS 3 6 39 0,oI 7 0 0])
 (.cut [6,7] [6] .ret)) (.skip)))
 (.cut [1,2,3,6] [3,6] (.seq (.reg true [oJ 40 3 3 0,oJ 41 3 3 0,oM 42 1 0,oC 43 0 57 [.t 41,.t 42] 6,oF 44 0 3 0,oL 45 44 16,oM 46 1 0,⟨some 47,none,.bin .shl (.k (.i .u64 1)) (.t 46),64⟩,oM 48 2 0,⟨some 49,none,.bin .mul (.k (.i .i64 2)) (.t 48),256⟩,⟨some 50,none,.build [.i .i64 0,.i .u64 0,.i .u64 0,.i .i64 0] [(0,1,.t 45),(2,1,.t 47),(3,1,.t 49)],1008⟩,oC 51 0 59 [.t 40,.t 43,.t 50] 2047,oS 3 6 51 4095,oI 7 8191 0])
 (.cut [6,7] [6] .ret)))))))⟩
theorem ok24 : okFn Tryd.prog 2 Tryd.f24 a24 = true := by kernel_rfl
def a25 : AFn := ⟨2,45,[.t 4,.t 5],
    .seq (.reg false [oB 2 24 0 0,oB 3 39 1 0,oI 4 0 0,oI 5 0 0])
 (.seq (.seq (.reg false [oJ 8 3 2 0,oC 9 0 14 [.t 8] 0,oM 6 9 0])
 (.seq (.reg false [oM 10 6 0,oY 11 .neq 10 0 0])
 (.ite (.t 11) (.seq (.reg false [oM 12 6 0,oI 4 0 0,oM 5 12 0])
 (.cut [4,5] [] .ret)) (.skip))))
 (.cut [2,3] [2,3] (.seq (.seq (.reg false [oF 13 0 3 0,oL 14 13 0,oF 15 0 2 0,oL 16 15 0,oX 17 .neq 14 16 0,oM 18 17 0,gf 18 (oJ 19 4 3 0),gf 18 (oC 20 0 39 [.t 19] 0),gf 18 (oN 21 20 0),oP 22 18 21 0])
 (.ite (.t 22) (.seq (.reg false [oI 4 0 0,oI 5 0 2])
 (.cut [4,5] [] .ret)) (.skip)))
 (.cut [2,3] [2,3] (.seq (.reg false [oJ 23 3 2 0,oJ 24 4 3 0,oC 25 0 58 [.t 23,.t 24] 0,⟨some 7,none,.alloc true 39 [.i .i64 0,.i .u64 0,.i .u64 0,.i .i64 0],0⟩,oS 4 7 25 0])
 (.seq (.blk 0 (.seq (.reg false [oF 27 1 7 0,oL 28 27 0,oF 29 1 3 0,oL 30 29 0,oX 31 .neq 28 30 0,oM 32 31 0,gf 32 (oF 33 2 7 0),gf 32 (oL 34 33 0),gf 32 (oF 35 2 3 0),gf 32 (oL 36 35 0),gf 32 (oX 37 .neq 34 36 0),oP 38 32 37 0,oM 26 38 0])
 (.ite (.t 26) (.seq (.reg false [oI 4 0 0,oI 5 0 0])
 (.cut [4,5] [] .ret)) (.seq (.reg false [oF 40 3 7 0,oL 41 40 0,oF 42 3 3 0,oL 43 42 0,oX 44 .eql 41 43 0,oM 39 44 0])
 (.ite (.t 39) (.seq (.reg false [oI 4 0 1,oI 5 0 0])
 (.cut [4,5] [] .ret)) (.skip))))))
 (.cut [] [] (.seq (.reg false [oI 4 0 (-1),oI 5 0 0])
 (.cut [4,5] [] .ret)))))))))⟩
theorem ok25 : okFn Tryd.prog 2 Tryd.f25 a25 = true := by kernel_rfl
def a39 : AFn := ⟨1,11,[.t 2],
    .seq (.reg false [oB 1 39 0 0,oU 2 0])
 (.seq (.reg false [oJ 3 4 1 0,oC 4 0 76 [.t 3] 0,oM 5 4 0,gt 5 (oF 6 3 1 0),gt 5 (oL 7 6 0),gt 5 (oY 8 .rem 7 0 2),gt 5 (oY 9 .eql 8 0 0),oQ 10 5 9 0,oM 2 10 0])
 (.cut [2] [] .ret))⟩
theorem ok39 : okFn Tryd.prog 2 Tryd.f39 a39 = true := by kernel_rfl
def a40 : AFn := ⟨2,20,[.t 4],
    .seq (.reg false [oB 2 39 0 0,oB 3 39 1 0,oU 4 0])
 (.seq (.reg true [oF 5 1 2 0,oL 6 5 1,oF 7 2 3 0,oL 8 7 4,oX 9 .and 6 8 15,oC 10 0 77 [.t 9] 31,oF 11 2 2 0,oL 12 11 64,oF 13 1 3 0,oL 14 13 256,oX 15 .and 12 14 960,oC 16 0 77 [.t 15] 2047,oX 17 .add 10 16 4095,oY 18 .rem 17 8191 2,oY 19 .eql 18 16383 0,oM 4 19 32767])
 (.cut [4] [] .ret))⟩
theorem ok40 : okFn Tryd.prog 2 Tryd.f40 a40 = true := by kernel_rfl
def a41L0 : AC := .cut [0,1,5] [] (.seq (.seq (.reg false [oM 11 5 0,oM 12 0 0,oG 13 12 0,oX 14 .lss 11 13 0])
 (.ite (.t 14) (.skip) (.cut [] [] (.exit 0))))
 (.cut [0,1,5] [] (.seq (.blk 1 (.seq (.reg true [oM 17 0 0,oM 18 5 0,oA 19 4 17 18 3,oJ 20 4 19 7,oM 21 1 0,oM 22 5 0,oA 23 4 21 22 48,oJ 24 4 23 112,⟨some 25,none,.eqs true [false,false,false,false] (.t 20) (.t 24),255⟩])
 (.ite (.t 25) (.seq (.reg false [oU 4 0])
 (.cut [4] [] .ret)) (.skip))))
 (.cut [0,1,5] [] (.reg false [oM 15 5 0,oY 16 .add 15 0 1,oM 5 16 0])))))
def a41 : AFn := ⟨2,26,[.t 4],
    .seq (.reg false [oU 4 0])
 (.seq (.seq (.reg false [oM 6 0 0,oG 7 6 0,oM 8 1 0,oG 9 8 0,oX 10 .neq 7 9 0])
 (.ite (.t 10) (.seq (.reg false [oU 4 0])
 (.cut [4] [] .ret)) (.skip)))
 (.cut [0,1] [] (.seq (.seq (.reg false [oI 5 0 0])
 (.blk 0 (.loop a41L0)))
 (.cut [] [] (.seq (.reg false [oT 4 0])
 (.cut [4] [] .ret))))))⟩
theorem ok41 : okFn Tryd.prog 2 Tryd.f41 a41 = true := by kernel_rfl
def a42 : AFn := ⟨1,15,[.t 2,.t 3],
    .seq (.reg false [oB 1 24 0 0,⟨some 2,none,.mv (.k (.sl none 0 (.ex 0))),0⟩,oI 3 0 0])
 (.seq (.seq (.reg false [oJ 5 3 1 0,oC 6 0 14 [.t 5] 0,oM 4 6 0])
 (.seq (.reg false [oM 7 4 0,oY 8 .neq 7 0 0])
 (.ite (.t 8) (.seq (.reg false [oM 9 4 0,⟨some 2,none,.mv (.k (.sl none 0 (.ex 0))),0⟩,oM 3 9 0])
 (.cutg 2 [2,3] [] .ret)) (.skip))))
 (.cutg 2 [1] [1] (.seq (.reg false [oF 10 1 1 0,oL 11 10 0,oF 12 0 1 0,oL 13 12 0,oC 14 1 55 [.t 11,.t 13] 0,oM 2 14 0,oI 3 0 0])
 (.cutg 2 [2,3] [] .ret))))⟩
theorem ok42 : okFn Tryd.prog 2 Tryd.f42 a42 = true := by kernel_rfl
def a43 : AFn := ⟨3,31,[.cell 6 (some 3),.t 7],
    .seq (.reg false [oB 3 24 0 0,⟨some 6,none,.alloc true 24 [.i .i64 0,.sl none 0 (.ex 0),.sl none 0 (.ex 0)],0⟩,oI 7 0 0])
 (.seq (.reg false [oJ 11 3 3 0,oM 12 1 0,oM 13 2 0,oC 14 0 24 [.t 11,.t 12,.t 13] 0,oM 10 14 0,oE 15 10 0 0,oE 16 10 1 0,⟨some 8,none,.alloc true 24 [.i .i64 0,.sl none 0 (.ex 0),.sl none 0 (.ex 0)],0⟩,oS 3 8 15 0,oM 9 16 0])
 (.seq (.seq (.reg false [oM 17 9 0,oY 18 .neq 17 0 0,oM 19 18 0,gf 19 (oM 20 2 0),gf 19 (oY 21 .eql 20 0 0),oP 22 19 21 0])
 (.ite (.t 22) (.seq (.reg false [oJ 23 3 8 0,oM 24 9 0,oS 3 6 23 0,oM 7 24 0])
 (.cutg 2 [6,7] [6] .ret)) (.skip)))
 (.cutg 2 [1,6,8] [6,8] (.seq (.reg false [oJ 25 3 8 0,oM 26 1 0,⟨some 27,none,.bslice 3 1 1 [.i .i64 0] [(0,1,.t 26)],0⟩,oC 28 0 20 [.t 25,.k (.i .i64 2),.t 27] 0,oE 29 28 0 0,oE 30 28 1 0,oS 3 6 29 0,oM 7 30 0])
 (.cutg 2 [6,7] [6] .ret)))))⟩
theorem ok43 : okFn Tryd.prog 2 Tryd.f43 a43 = true := by kernel_rfl
def a44 : AFn := ⟨2,18,[.t 4],
    .seq (.reg false [oB 2 39 0 0,oB 3 39 1 0,oU 4 0])
 (.seq (.reg false [oJ 5 4 2 0,oC 6 0 76 [.t 5] 0,oM 7 6 0,gt 7 (oJ 8 4 3 0),gt 7 (oC 9 0 76 [.t 8] 0),oQ 10 7 9 0,oM 11 10 0,gt 11 (oF 12 0 2 0),gt 11 (oL 13 12 0),gt 11 (oF 14 0 3 0),gt 11 (oL 15 14 0),gt 11 (oX 16 .eql 13 15 0),oQ 17 11 16 0,oM 4 17 0])
 (.cut [4] [] .ret))⟩
theorem ok44 : okFn Tryd.prog 2 Tryd.f44 a44 = true := by kernel_rfl
def a45L0 : AC := .cut [2,3,4,5,6] [2,3,4] (.seq (.seq (.reg false [oM 24 6 0,⟨some 25,none,.bin .neq (.t 24) (.k (.i .u64 0)),0⟩])
 (.ite (.t 25) (.skip) (.cut [2,3,4,5] [2,3,4] (.exit 0))))
 (.cut [2,3,4,5,6] [2,3,4] (.seq (.blk 1 (.seq (.reg false [oM 30 6 0,oC 31 0 78 [.t 30] 0,oM 7 31 0])
 (.seq (.reg true [oJ 32 4 3 0,oM 33 7 0,oC 34 0 79 [.t 32,.t 33] 3,oJ 35 4 2 0,oM 36 7 0,oC 37 0 79 [.t 35,.t 36] 31,oX 38 .sub 34 37 63,oY 39 .add 38 127 3,oY 40 .rem 39 255 3])
 (.blk 2 (.seq (.reg false [oY 42 .eql 40 0 1,oM 41 42 0])
 (.ite (.t 41) (.reg false [oM 43 5 0,oY 44 .add 43 0 1,oM 5 44 0]) (.seq (.reg false [oY 46 .eql 40 0 2,oM 45 46 0])
 (.ite (.t 45) (.reg false [oM 47 5 0,oY 48 .add 47 0 3,oM 5 48 0]) (.skip)))))))))
 (.cut [2,3,4,5,6] [2,3,4] (.reg false [oM 26 6 0,oM 27 6 0,⟨some 28,none,.bin .sub (.t 27) (.k (.i .u64 1)),0⟩,oX 29 .and 26 28 0,oM 6 29 0])))))
def a45 : AFn := ⟨2,64,[.cell 4 (some 4)],
    .seq (.reg false [oB 2 39 0 0,oB 3 39 1 0,⟨some 4,none,.alloc true 39 [.i .i64 0,.i .u64 0,.i .u64 0,.i .i64 0],0⟩])
 (.seq (.reg false [oF 8 3 2 0,oL 9 8 0,oF 10 3 3 0,oL 11 10 0,oX 12 .add 9 11 0,oM 5 12 0])
 (.seq (.seq (.reg false [oF 13 1 2 0,oL 14 13 0,oF 15 2 2 0,oL 16 15 0,oX 17 .or 14 16 0,oF 18 1 3 0,oL 19 18 0,oF 20 2 3 0,oL 21 20 0,oX 22 .or 19 21 0,oX 23 .and 17 22 0,oM 6 23 0])
 (.blk 0 (.loop a45L0)))
 (.cut [2,3,4,5] [2,3,4] (.seq (.reg false [oF 49 0 2 0,oL 50 49 0,oF 51 1 2 0,oL 52 51 0,oF 53 1 3 0,oL 54 53 0,oX 55 .xor 52 54 0,oF 56 2 2 0,oL 57 56 0,oF 58 2 3 0,oL 59 58 0,oX 60 .xor 57 59 0,oM 61 5 0,oY 62 .rem 61 0 4,⟨some 63,none,.build [.i .i64 0,.i .u64 0,.i .u64 0,.i .i64 0] [(0,1,.t 50),(1,1,.t 55),(2,1,.t 60),(3,1,.t 62)],0⟩,oS 4 4 63 0])
 (.cut [4] [4] .ret)))))⟩
theorem ok45 : okFn Tryd.prog 2 Tryd.f45 a45 = true := by kernel_rfl
def a46L0 : AC := .cut [0,1,12,13] [] (.seq (.reg false [oX 14 .lss 13 12 0])
 (.seq (.ite (.t 14) (.skip) (.cut [] [] (.exit 0)))
 (.cut [0,1,12,13] [] (.seq (.blk 1 (.seq (.reg false [oM 15 13 0,oM 5 15 0])
 (.seq (.reg true [oM 16 0 0,oM 17 5 0,oA 18 4 16 17 3,oJ 19 4 18 7,oM 20 1 0,oM 21 5 0,oA 22 4 20 21 48,oJ 23 4 22 112,⟨some 24,none,.eqs true [false,false,false,false] (.t 19) (.t 23),255⟩])
 (.ite (.t 24) (.seq (.reg false [oU 4 0])
 (.cut [4] [] .ret)) (.skip)))))
 (.cut [0,1,12,13] [] (.reg false [oY 25 .add 13 0 1,oM 13 25 0]))))))
def a46 : AFn := ⟨2,26,[.t 4],
    .seq (.reg false [oU 4 0])
 (.seq (.seq (.reg false [oM 6 0 0,oG 7 6 0,oM 8 1 0,oG 9 8 0,oX 10 .neq 7 9 0])
 (.ite (.t 10) (.seq (.reg false [oU 4 0])
 (.cut [4] [] .ret)) (.skip)))
 (.cut [0,1] [] (.seq (.seq (.reg false [oM 11 0 0,oG 12 11 0,oI 13 0 0])
 (.blk 0 (.loop a46L0)))
 (.cut [] [] (.seq (.reg false [oT 4 0])
 (.cut [4] [] .ret))))))⟩
theorem ok46 : okFn Tryd.prog 2 Tryd.f46 a46 = true := by kernel_rfl
def a47L0 : AC := .cut [1,2,17,18,19] [] (.seq (.reg false [oX 20 .lss 19 18 0])
 (.seq (.ite (.t 20) (.skip) (.cut [] [] (.exit 0)))
 (.cut [1,2,17,18,19] [] (.seq (.blk 1 (.seq (.reg false [oM 21 19 0,oA 22 1 17 19 0,oL 23 22 0,oM 7 21 0,oM 8 23 0])
 (.seq (.reg false [oM 24 8 0,oY 25 .lss 24 0 0,oM 26 25 0,gf 26 (oM 27 8 0),gf 26 (oM 28 2 0),gf 26 (oX 29 .geq 27 28 0),oP 30 26 29 0,oM 31 30 0,gf 31 (oM 32 1 0),gf 31 (oM 33 7 0),gf 31 ⟨some 34,none,.slc 1 (.t 32) none (some (.t 33)) none,0⟩,gf 31 (oM 35 8 0),gf 31 (oC 36 0 81 [.t 34,.t 35] 0),oP 37 31 36 0])
 (.ite (.t 37) (.seq (.reg false [oI 6 0 61])
 (.cut [6] [] .ret)) (.skip)))))
 (.cut [1,2,17,18,19] [] (.reg false [oY 38 .add 19 0 1,oM 19 38 0]))))))
def a47 : AFn := ⟨3,39,[.t 6],
    .seq (.reg false [oI 6 0 0])
 (.seq (.seq (.reg false [oM 9 0 0,oC 10 0 80 [.t 9] 0,oY 11 .eql 10 0 0])
 (.ite (.t 11) (.seq (.reg false [oI 6 0 60])
 (.cut [6] [] .ret)) (.skip)))
 (.cut [0,1,2] [] (.seq (.seq (.reg false [oM 12 1 0,oG 13 12 0,oM 14 0 0,oC 15 0 80 [.t 14] 0,oX 16 .neq 13 15 0])
 (.ite (.t 16) (.seq (.reg false [oI 6 0 61])
 (.cut [6] [] .ret)) (.skip)))
 (.cut [1,2] [] (.seq (.seq (.reg false [oM 17 1 0,oG 18 17 0,oI 19 0 0])
 (.blk 0 (.loop a47L0)))
 (.cut [] [] (.seq (.reg false [oI 6 0 0])
 (.cut [6] [] .ret))))))))⟩
theorem ok47 : okFn Tryd.prog 2 Tryd.f47 a47 = true := by kernel_rfl
def a48 : AFn := ⟨1,9,[.t 2],
    .seq (.reg false [oU 2 0])
 (.seq (.reg false [oM 3 0 0,oY 4 .geq 3 0 1,oM 5 4 0,gt 5 (oM 6 0 0),gt 5 (oY 7 .leq 6 0 17),oQ 8 5 7 0,oM 2 8 0])
 (.cut [2] [] .ret))⟩
theorem ok48 : okFn Tryd.prog 2 Tryd.f48 a48 = true := by kernel_rfl
def a49 : AFn := ⟨1,12,[.cell 2 (some 3)],
    .seq (.reg false [oB 1 24 0 0,⟨some 2,none,.alloc true 24 [.i .i64 0,.sl none 0 (.ex 0),.sl none 0 (.ex 0)],0⟩])
 (.seq (.reg true [oF 3 0 1 0,oL 4 3 1,oF 5 1 1 0,oL 6 5 4,oC 7 1 54 [.t 6] 12,oF 8 2 1 0,oL 9 8 32,oC 10 1 54 [.t 9] 124,⟨some 11,none,.build [.i .i64 0,.sl none 0 (.ex 0),.sl none 0 (.ex 0)] [(0,1,.t 4),(1,1,.t 7),(2,1,.t 10)],255⟩,oS 3 2 11 511])
 (.cutg 2 [2] [2] .ret))⟩
theorem ok49 : okFn Tryd.prog 2 Tryd.f49 a49 = true := by kernel_rfl
def a50L0 : AC := .cut [0,1,2,6,7,8] [] (.seq (.reg false [oX 9 .lss 8 7 0])
 (.seq (.ite (.t 9) (.skip) (.cut [] [] (.exit 0)))
 (.cut [0,1,2,6,7,8] [] (.seq (.blk 1 (.seq (.reg false [oM 10 8 0,oA 11 4 6 8 0,oJ 12 4 11 0,⟨some 5,none,.alloc true 39 [.i .i64 0,.i .u64 0,.i .u64 0,.i .i64 0],0⟩,oM 4 10 0,oS 4 5 12 0])
 (.reg false [oM 14 0 0,oM 15 4 0,oJ 16 4 5 0,oL 17 1 0,oL 18 2 0,oC 19 0 51 [.t 16,.t 17,.t 18] 0,oM 13 19 0,oE 20 13 0 0,oE 21 13 1 0,oA 22 4 14 15 0,oS 4 22 20 0])))
 (.cut [0,1,2,6,7,8] [] (.reg false [oY 23 .add 8 0 1,oM 8 23 0]))))))
def a50 : AFn := ⟨3,24,[],
    .seq (.reg false [oM 6 0 0,oG 7 6 0,oI 8 0 0])
 (.blk 0 (.loop a50L0))⟩
theorem ok50 : okFn Tryd.prog 2 Tryd.f50 a50 = true := by kernel_rfl
def a51L0 : AC := .cut [1,2,3,6,8,33,34,35] [3,6,8] (.seq (.reg false [oX 36 .lss 35 34 0])
 (.seq (.ite (.t 36) (.skip) (.cut [1,2,3,6,8] [3,6,8] (.exit 0)))
 (.cut [1,2,3,6,8,33,34,35] [3,6,8] (.seq (.blk 1 (.seq (.reg false [oA 37 1 33 35 0,oL 38 37 0,oM 10 38 0])
 (.seq (.reg true [oF 39 1 8 0,oL 40 39 1,oM 41 10 0,⟨some 42,none,.bin .shl (.k (.i .u64 1)) (.t 41),4⟩,oX 43 .andNot 40 42 15,oF 44 1 8 31,oS 1 44 43 63])
 (.reg true [oF 45 2 8 0,oL 46 45 1,oM 47 10 0,⟨some 48,none,.bin .shl (.k (.i .u64 1)) (.t 47),4⟩,oX 49 .andNot 46 48 15,oF 50 2 8 31,oS 1 50 49 63]))))
 (.cut [1,2,3,6,8,33,34,35] [3,6,8] (.reg false [oY 51 .add 35 0 1,oM 35 51 0]))))))
def a51L1 : AC := .cut [2,3,6,8,11,54,55,56] [3,6,8] (.seq (.reg false [oX 57 .lss 56 55 0])
 (.seq (.ite (.t 57) (.skip) (.cut [6,8] [6,8] (.exit 2)))
 (.cut [2,3,6,8,11,54,55,56] [3,6,8] (.seq (.blk 3 (.seq (.reg false [oM 58 56 0,oA 59 1 54 56 0,oL 60 59 0,oM 12 58 0,oM 13 60 0])
 (.seq (.reg false [oJ 61 4 3 0,oM 62 13 0,oC 63 0 79 [.t 61,.t 62] 0,oM 14 63 0])
 (.seq (.seq (.reg false [oM 64 14 0,oY 65 .eql 64 0 2])
 (.ite (.t 65) (.reg false [oF 66 3 8 0,oL 67 66 0,oY 68 .add 67 0 1,oY 69 .rem 68 0 4,oF 70 3 8 0,oS 1 70 69 0]) (.skip)))
 (.cut [2,3,6,8,11,12,14,54,55,56] [3,6,8] (.seq (.seq (.reg false [oM 71 14 0,oY 72 .eql 71 0 1,oM 73 72 0,gf 73 (oM 74 14 0),gf 73 (oY 75 .eql 74 0 2),oP 76 73 75 0])
 (.ite (.t 76) (.reg true [oJ 77 4 8 0,oM 78 11 0,oM 79 12 0,⟨some 80,none,.bin .mul (.k (.i .i64 2)) (.t 79),4⟩,oA 81 1 78 80 14,oL 82 81 30,oF 83 0 3 0,oL 84 83 64,oM 85 2 0,oC 86 0 83 [.t 82,.t 84,.t 85] 510,oC 87 0 45 [.t 77,.t 86] 1023,oS 4 8 87 2047]) (.skip)))
 (.cut [2,3,6,8,11,12,14,54,55,56] [3,6,8] (.seq (.reg false [oM 88 14 0,oY 89 .geq 88 0 2])
 (.ite (.t 89) (.reg true [oJ 90 4 8 0,oM 91 11 0,oM 92 12 0,⟨some 93,none,.bin .mul (.k (.i .i64 2)) (.t 92),4⟩,oY 94 .add 93 12 1,oA 95 1 91 94 30,oL 96 95 62,oF 97 0 3 0,oL 98 97 128,oM 99 2 0,oC 100 0 83 [.t 96,.t 98,.t 99] 1022,oC 101 0 45 [.t 90,.t 100] 2047,oS 4 8 101 4095]) (.skip))))))))))
 (.cut [2,3,6,8,11,54,55,56] [3,6,8] (.reg false [oY 102 .add 56 0 1,oM 56 102 0]))))))
def a51 : AFn := ⟨3,104,[.cell 6 (some 4),.t 7],
    .seq (.reg false [oB 3 39 0 0,⟨some 6,none,.alloc true 39 [.i .i64 0,.i .u64 0,.i .u64 0,.i .i64 0],0⟩,oI 7 0 0])
 (.seq (.seq (.reg false [oJ 15 4 3 0,oC 16 0 76 [.t 15] 0,oN 17 16 0,oM 18 17 0,gf 18 (oM 19 1 0),gf 18 (oC 20 0 48 [.t 19] 0),gf 18 (oN 21 20 0),oP 22 18 21 0,oM 23 22 0,gf 23 (oM 24 1 0),gf 23 (oM 25 2 0),gf 23 (oF 26 0 3 0),gf 23 (oL 27 26 0),gf 23 (oC 28 0 47 [.t 24,.t 25,.t 27] 0),gf 23 (oY 29 .neq 28 0 0),oP 30 23 29 0])
 (.ite (.t 30) (.seq (.reg false [⟨some 31,none,.build [.i .i64 0,.i .u64 0,.i .u64 0,.i .i64 0] [],0⟩,oS 4 6 31 0,oI 7 0 130])
 (.cut [6,7] [6] .ret)) (.skip)))
 (.cut [1,2,3,6] [3,6] (.seq (.reg false [oJ 32 4 3 0,⟨some 8,none,.alloc true 39 [.i .i64 0,.i .u64 0,.i .u64 0,.i .i64 0],0⟩,oS 4 8 32 0])
 (.seq (.seq (.reg false [oM 33 2 0,oG 34 33 0,oI 35 0 0])
 (.blk 0 (.loop a51L0)))
 (.cut [1,2,3,6,8] [3,6,8] (.seq (.reg false [oM 52 1 0,oC 53 0 82 [.t 52] 0,oM 11 53 0])
 (.seq (.seq (.reg false [oM 54 2 0,oG 55 54 0,oI 56 0 0])
 (.blk 2 (.loop a51L1)))
 (.cut [6,8] [6,8] (.seq (.reg false [oJ 103 4 8 0,oS 4 6 103 0,oI 7 0 0])
 (.cut [6,7] [6] .ret))))))))))⟩
theorem ok51 : okFn Tryd.prog 2 Tryd.f51 a51 = true := by kernel_rfl
def a52 : AFn := ⟨1,13,[.cell 2 (some 4)],
    .seq (.reg false [⟨some 2,none,.alloc true 87 [.s ⟨#[]⟩,.i .i64 0,.i .i64 0,.i .i64 0],0⟩])
 (.seq (.seq (.reg false [oM 3 0 0,oY 4 .lss 3 0 1,oM 5 4 0,gf 5 (oM 6 0 0),gf 5 (oY 7 .gtr 6 0 20),oP 8 5 7 0])
 (.ite (.t 8) (.seq (.reg false [⟨some 9,none,.build [.s ⟨#[]⟩,.i .i64 0,.i .i64 0,.i .i64 0] [],0⟩,oS 4 2 9 0])
 (.cut [2] [2] .ret)) (.skip)))
 (.cut [0,2] [2] (.seq (.reg false [oC 10 0 84 [] 0,oM 11 0 0,⟨some 12,none,.idx 4 true 21 (.t 10) (.t 11),0⟩,oS 4 2 12 0])
 (.cut [2] [2] .ret))))⟩
theorem ok52 : okFn Tryd.prog 2 Tryd.f52 a52 = true := by kernel_rfl
def a53L0 : AC := .cut [0,1,7,8,9] [] (.seq (.reg false [oX 10 .lss 9 8 0])
 (.seq (.ite (.t 10) (.skip) (.cut [] [] (.exit 0)))
 (.cut [0,1,7,8,9] [] (.seq (.blk 1 (.seq (.reg false [oM 11 9 0,oA 12 1 7 9 0,oL 13 12 0,oM 5 11 0,oM 6 13 0])
 (.seq (.reg false [oM 14 6 0,oY 15 .lss 14 0 0,oM 16 15 0,gf 16 (oM 17 6 0),gf 16 (oM 18 1 0),gf 16 (oX 19 .geq 17 18 0),oP 20 16 19 0,oM 21 20 0,gf 21 (oM 22 0 0),gf 21 (oM 23 5 0),gf 21 ⟨some 24,none,.slc 1 (.t 22) none (some (.t 23)) none,0⟩,gf 21 (oM 25 6 0),gf 21 (oC 26 0 81 [.t 24,.t 25] 0),oP 27 21 26 0])
 (.ite (.t 27) (.seq (.reg false [oU 4 0])
 (.cut [4] [] .ret)) (.skip)))))
 (.cut [0,1,7,8,9] [] (.reg false [oY 28 .add 9 0 1,oM 9 28 0]))))))
def a53 : AFn := ⟨2,29,[.t 4],
    .seq (.reg false [oU 4 0])
 (.seq (.seq (.reg false [oM 7 0 0,oG 8 7 0,oI 9 0 0])
 (.blk 0 (.loop a53L0)))
 (.cut [] [] (.seq (.reg false [oT 4 0])
 (.cut [4] [] .ret))))⟩
theorem ok53 : okFn Tryd.prog 2 Tryd.f53 a53 = true := by kernel_rfl
def a54 : AFn := ⟨1, 8, [.t 2],
    .seq (.reg false [
      ⟨(some 2), none, .mv (.k (.sl none 0 (.ex 0))), 0⟩])
    (.seq (.seq (.reg false [
      ⟨(some 3), none, .mv (.t 0), 0⟩,
      ⟨(some 4), none, .eqnil false (.t 3), 0⟩])
    (.ite (.t 4) (.seq (.reg false [
      ⟨(some 2), none, .mv (.k (.sl none 0 (.ex 0))), 0⟩])
    (.cut [2] [] .ret)) (.skip)))
    (.cut [0] [] (.seq (.reg false [
      ⟨(some 5), none, .bslice 39 4 0 [] [], 0⟩,
      ⟨(some 6), none, .mv (.t 0), 0⟩,
      ⟨(some 7), none, .app 39 4 32 (.t 5) (.t 6), 0⟩,
      ⟨(some 2), none, .mv (.t 7), 0⟩])
    (.cut [2] [] .ret))))⟩
theorem ok54 : okFn Tryd.prog 2 Tryd.f54 a54 = true := by kernel_rfl
def a55L0 : AC := .cutg 2 [0,5,6,7,8,13,14] [] (.seq (.seq (.reg false [oM 18 8 0,oM 19 0 0,oG 20 19 0,oX 21 .lss 18 20 0,oM 22 21 0,gt 22 (oM 23 7 0),gt 22 (oY 24 .lss 23 0 0),oQ 25 22 24 0])
 (.ite (.t 25) (.skip) (.cutg 2 [0,5,6,7,13,14] [] (.exit 2))))
 (.cutg 2 [0,5,6,7,8,13,14] [] (.seq (.blk 3 (.seq (.reg false [oM 28 0 0,oM 29 8 0,oA 30 4 28 29 0,oJ 31 4 30 0,oM 32 6 0,oC 33 0 85 [.t 31,.t 32] 0,⟨some 34,none,.bin .eql (.t 33) (.k (.i .u64 1)),0⟩])
 (.ite (.t 34) (.reg false [oM 35 8 0,oM 7 35 0]) (.skip))))
 (.cutg 2 [0,5,6,7,8,13,14] [] (.reg false [oM 26 8 0,oY 27 .add 26 0 1,oM 8 27 0])))))
def a55L1 : AC := .cutg 2 [0,5,6,13,14,53,54] [] (.seq (.reg false [oX 55 .lss 54 53 0])
 (.seq (.ite (.t 55) (.skip) (.cutg 2 [0,5,13,14] [] (.exit 4)))
 (.cutg 2 [0,5,6,13,14,53,54] [] (.seq (.blk 5 (.seq (.reg false [oM 56 54 0,oM 9 56 0])
 (.seq (.reg false [oM 57 9 0,oM 58 5 0,oX 59 .neq 57 58 0,oM 60 59 0,gt 60 (oM 61 0 0),gt 60 (oM 62 9 0),gt 60 (oA 63 4 61 62 0),gt 60 (oJ 64 4 63 0),gt 60 (oM 65 6 0),gt 60 (oC 66 0 85 [.t 64,.t 65] 0),gt 60 ⟨some 67,none,.bin .eql (.t 66) (.k (.i .u64 1)),0⟩,oQ 68 60 67 0])
 (.ite (.t 68) (.reg true [oM 69 0 0,oM 70 9 0,oM 71 0 0,oM 72 9 0,oA 73 4 71 72 12,oJ 74 4 73 28,oM 75 0 0,oM 76 5 0,oA 77 4 75 76 192,oJ 78 4 77 448,oC 79 0 86 [.t 74,.t 78] 1020,oA 80 4 69 70 2047,oS 4 80 79 4095]) (.skip)))))
 (.cutg 2 [0,5,6,13,14,53,54] [] (.reg false [oY 81 .add 54 0 1,oM 54 81 0]))))))
def a55L2 : AC := .cutg 2 [0,5,13,14] [] (.seq (.reg false [oX 15 .lss 14 13 0])
 (.seq (.ite (.t 15) (.skip) (.cutg 2 [0] [] (.exit 0)))
 (.cutg 2 [0,5,13,14] [] (.seq (.blk 1 (.seq (.reg false [oM 16 14 0,oM 6 16 0])
 (.seq (.reg false [oI 7 0 (-1)])
 (.seq (.seq (.reg false [oM 17 5 0,oM 8 17 0])
 (.blk 2 (.loop a55L0)))
 (.cutg 2 [0,5,6,7,13,14] [] (.seq (.seq (.reg false [oM 36 7 0,oY 37 .lss 36 0 0])
 (.ite (.t 37) (.cutg 2 [0,5,13,14] [] (.exit 1)) (.skip)))
 (.cutg 2 [0,5,6,7,13,14] [] (.seq (.reg true [oM 38 0 0,oM 39 5 0,oM 40 0 0,oM 41 7 0,oM 42 0 0,oM 43 7 0,oA 44 4 42 43 48,oJ 45 4 44 112,oM 46 0 0,oM 47 5 0,oA 48 4 46 47 768,oJ 49 4 48 1792,oA 50 4 38 39 4083,oS 4 50 45 8179,oA 51 4 40 41 16383,oS 4 51 49 32767])
 (.seq (.seq (.reg false [oM 52 0 0,oG 53 52 0,oI 54 0 0])
 (.blk 4 (.loop a55L1)))
 (.cutg 2 [0,5,13,14] [] (.reg false [oM 82 5 0,oY 83 .add 82 0 1,oM 5 83 0])))))))))))
 (.cutg 2 [0,5,13,14] [] (.reg false [oY 84 .add 14 0 1,oM 14 84 0]))))))
def a55 : AFn := ⟨2,86,[.t 4],
    .seq (.reg false [⟨some 4,none,.mv (.k (.sl none 0 (.ex 0))),0⟩])
 (.seq (.reg false [oM 10 0 0,oC 11 1 54 [.t 10] 0,oM 0 11 0])
 (.seq (.reg false [oI 5 0 0])
 (.seq (.seq (.reg false [oM 12 1 0,⟨some 13,none,.bin .mul (.k (.i .i64 2)) (.t 12),0⟩,oI 14 0 0])
 (.blk 0 (.loop a55L2)))
 (.cutg 2 [0] [] (.seq (.reg false [oM 85 0 0,oM 4 85 0])
 (.cutg 2 [4] [] .ret))))))⟩
theorem ok55 : okFn Tryd.prog 2 Tryd.f55 a55 = true := by kernel_rfl
def a56 : AFn := ⟨2,19,[.t 4],
    .seq (.reg false [oB 2 24 0 0,oI 4 0 0])
 (.seq (.seq (.reg false [oJ 6 3 2 0,oC 7 0 14 [.t 6] 0,oM 5 7 0])
 (.seq (.reg false [oM 8 5 0,oY 9 .neq 8 0 0])
 (.ite (.t 9) (.seq (.reg false [oM 10 5 0,oM 4 10 0])
 (.cut [4] [] .ret)) (.skip))))
 (.cut [1,2] [2] (.seq (.seq (.reg false [oM 11 1 0,oY 12 .lss 11 0 0,oM 13 12 0,gf 13 (oM 14 1 0),gf 13 (oF 15 0 2 0),gf 13 (oL 16 15 0),gf 13 (oX 17 .geq 14 16 0),oP 18 13 17 0])
 (.ite (.t 18) (.seq (.reg false [oI 4 0 2])
 (.cut [4] [] .ret)) (.skip)))
 (.cut [] [] (.seq (.reg false [oI 4 0 0])
 (.cut [4] [] .ret))))))⟩
theorem ok56 : okFn Tryd.prog 2 Tryd.f56 a56 = true := by kernel_rfl
def a57 : AFn := ⟨2,9,[.t 4],
    .seq (.reg false [oB 2 24 0 0,⟨some 3,none,.box false 3 (.t 1),0⟩,oI 4 0 0])
 (.seq (.reg false [oF 5 1 2 0,oL 6 5 0,⟨some 7,none,.mkf (.func 87) [] [.t 3],0⟩,oC 8 0 60 [.t 6,.t 7] 0,oM 4 8 0])
 (.cutg 2 [4] [] .ret))⟩
theorem ok57 : okFn Tryd.prog 2 Tryd.f57 a57 = true := by kernel_rfl
def a58L0 : AC := .cut [2,3,4,5,12,13,14] [2,3,4,5] (.seq (.reg false [oX 15 .lss 14 13 0])
 (.seq (.ite (.t 15) (.skip) (.cut [4,5] [4,5] (.exit 0)))
 (.cut [2,3,4,5,12,13,14] [2,3,4,5] (.seq (.blk 1 (.seq (.reg false [oM 16 14 0,oA 17 4 12 14 0,oJ 18 4 17 0,⟨some 7,none,.alloc true 39 [.i .i64 0,.i .u64 0,.i .u64 0,.i .i64 0],0⟩,oM 6 16 0,oS 4 7 18 0])
 (.seq (.reg false [oJ 19 4 7 0,oJ 20 4 3 0,oC 21 0 40 [.t 19,.t 20] 0,oN 22 21 0])
 (.ite (.t 22) (.reg true [oJ 23 4 5 0,oF 24 1 2 0,oL 25 24 2,oM 26 6 0,oA 27 4 25 26 14,oJ 28 4 27 30,oC 29 0 86 [.t 23,.t 28] 63,oS 4 5 29 127]) (.skip)))))
 (.cut [2,3,4,5,12,13,14] [2,3,4,5] (.reg false [oY 30 .add 14 0 1,oM 14 30 0]))))))
def a58 : AFn := ⟨2,32,[.cell 4 (some 4)],
    .seq (.reg false [oB 2 24 0 0,oB 3 39 1 0,⟨some 4,none,.alloc true 39 [.i .i64 0,.i .u64 0,.i .u64 0,.i .i64 0],0⟩])
 (.seq (.reg false [oF 8 0 2 0,oL 9 8 0,⟨some 10,none,.build [.i .i64 0,.i .u64 0,.i .u64 0,.i .i64 0] [(0,1,.t 9)],0⟩,⟨some 5,none,.alloc true 39 [.i .i64 0,.i .u64 0,.i .u64 0,.i .i64 0],0⟩,oS 4 5 10 0])
 (.seq (.seq (.reg false [oF 11 2 2 0,oL 12 11 0,oG 13 12 0,oI 14 0 0])
 (.blk 0 (.loop a58L0)))
 (.cut [4,5] [4,5] (.seq (.reg false [oJ 31 4 5 0,oS 4 4 31 0])
 (.cut [4] [4] .ret)))))⟩
theorem ok58 : okFn Tryd.prog 2 Tryd.f58 a58 = true := by kernel_rfl
def a59 : AFn := ⟨3,35,[.cell 6 (some 3)],
    .seq (.reg false [⟨some 3,none,.box false 24 (.t 0),0⟩,⟨some 4,none,.box false 3 (.t 1),0⟩,⟨some 5,none,.box false 39 (.t 2),0⟩,⟨some 6,none,.alloc true 24 [.i .i64 0,.sl none 0 (.ex 0),.sl none 0 (.ex 0)],0⟩])
 (.seq (.reg false [oJ 9 3 3 0,oC 10 1 49 [.t 9] 0,⟨some 7,none,.alloc true 24 [.i .i64 0,.sl none 0 (.ex 0),.sl none 0 (.ex 0)],0⟩,oS 3 7 10 0])
 (.seq (.reg false [⟨some 11,none,.mkf (.func 88) [] [.t 4,.t 5,.t 3],0⟩,oM 8 11 0])
 (.seq (.reg false [oM 12 8 0,oF 13 1 7 0,oL 14 13 0,⟨some 15,none,.call 2 (.t 12) [.t 14],0⟩])
 (.seq (.reg false [oM 16 8 0,oF 17 2 7 0,oL 18 17 0,⟨some 19,none,.call 2 (.t 16) [.t 18],0⟩])
 (.seq (.reg true [oF 20 2 7 0,oL 21 20 1,oL 22 4 0,oF 23 1 7 0,oL 24 23 8,oL 25 4 0,oF 26 1 3 0,oL 27 26 64,oL 28 4 0,oA 29 4 27 28 448,oJ 30 4 29 960,oJ 31 4 5 0,oA 32 4 21 22 1991,oS 4 32 30 6087,oA 33 4 24 25 16383,oS 4 33 31 32767])
 (.seq (.reg false [oJ 34 3 7 0,oS 3 6 34 0])
 (.cutg 2 [6] [6] .ret)))))))⟩
theorem ok59 : okFn Tryd.prog 2 Tryd.f59 a59 = true := by kernel_rfl
def a60L0 : AC := .cut [0,1,7,8] [] (.seq (.reg false [oX 9 .lss 8 7 0])
 (.seq (.ite (.t 9) (.skip) (.cut [] [] (.exit 0)))
 (.cut [0,1,7,8] [] (.seq (.blk 1 (.seq (.reg false [oM 10 8 0,oM 5 10 0])
 (.seq (.reg false [oM 11 1 0,oM 12 0 0,oM 13 5 0,oA 14 4 12 13 0,oJ 15 4 14 0,⟨some 16,none,.call 0 (.t 11) [.t 15],0⟩])
 (.ite (.t 16) (.seq (.reg false [oM 17 5 0,oM 4 17 0])
 (.cut [4] [] .ret)) (.skip)))))
 (.cut [0,1,7,8] [] (.reg false [oY 18 .add 8 0 1,oM 8 18 0]))))))
def a60 : AFn := ⟨2,19,[.t 4],
    .seq (.reg false [oI 4 0 0])
 (.seq (.seq (.reg false [oM 6 0 0,oG 7 6 0,oI 8 0 0])
 (.blk 0 (.loop a60L0)))
 (.cut [] [] (.seq (.reg false [oI 4 0 (-1)])
 (.cut [4] [] .ret))))⟩
theorem ok60 : okFn Tryd.prog 2 Tryd.f60 a60 = true := by kernel_rfl
def a76 : AFn := ⟨1,6,[.t 2],
    .seq (.reg false [oB 1 39 0 0,oU 2 0])
 (.seq (.reg false [oJ 3 4 1 0,oC 4 0 97 [.t 3] 0,oY 5 .eql 4 0 0,oM 2 5 0])
 (.cut [2] [] .ret))⟩
theorem ok76 : okFn Tryd.prog 2 Tryd.f76 a76 = true := by kernel_rfl
def a77 : AFn := ⟨1,35,[.t 2],
    .seq (.reg false [oI 2 0 0])
 (.seq (.reg false [oM 3 0 0,⟨some 4,none,.bin .shr (.t 3) (.k (.i .u64 1)),0⟩,⟨some 5,none,.bin .and (.t 4) (.k (.i .u64 6148914691236517205)),0⟩,oM 6 0 0,⟨some 7,none,.bin .and (.t 6) (.k (.i .u64 6148914691236517205)),0⟩,oX 8 .add 5 7 0,oM 0 8 0])
 (.seq (.reg false [oM 9 0 0,⟨some 10,none,.bin .shr (.t 9) (.k (.i .u64 2)),0⟩,⟨some 11,none,.bin .and (.t 10) (.k (.i .u64 3689348814741910323)),0⟩,oM 12 0 0,⟨some 13,none,.bin .and (.t 12) (.k (.i .u64 3689348814741910323)),0⟩,oX 14 .add 11 13 0,oM 0 14 0])
 (.seq (.reg false [oM 15 0 0,⟨some 16,none,.bin .shr (.t 15) (.k (.i .u64 4)),0⟩,oM 17 0 0,oX 18 .add 16 17 0,⟨some 19,none,.bin .and (.t 18) (.k (.i .u64 1085102592571150095)),0⟩,oM 0 19 0])
 (.seq (.reg false [oM 20 0 0,oM 21 0 0,⟨some 22,none,.bin .shr (.t 21) (.k (.i .u64 8)),0⟩,oX 23 .add 20 22 0,oM 0 23 0])
 (.seq (.reg false [oM 24 0 0,oM 25 0 0,⟨some 26,none,.bin .shr (.t 25) (.k (.i .u64 16)),0⟩,oX 27 .add 24 26 0,oM 0 27 0])
 (.seq (.reg false [oM 28 0 0,oM 29 0 0,⟨some 30,none,.bin .shr (.t 29) (.k (.i .u64 32)),0⟩,oX 31 .add 28 30 0,oM 0 31 0])
 (.seq (.reg false [oM 32 0 0,⟨some 33,none,.conv .i64 (.t 32),0⟩,oY 34 .and 33 0 127,oM 2 34 0])
 (.cut [2] [] .ret))))))))⟩
theorem ok77 : okFn Tryd.prog 2 Tryd.f77 a77 = true := by kernel_rfl
def a78 : AFn := ⟨1,14,[.t 2],
    .seq (.reg false [oI 2 0 0])
 (.seq (.seq (.reg false [oM 3 0 0,⟨some 4,none,.bin .eql (.t 3) (.k (.i .u64 0)),0⟩])
 (.ite (.t 4) (.seq (.reg false [oI 2 0 64])
 (.cut [2] [] .ret)) (.skip)))
 (.cut [0] [] (.seq (.reg false [oM 5 0 0,oM 6 0 0,⟨some 7,none,.un .neg (.t 6),0⟩,oX 8 .and 5 7 0,⟨some 9,none,.bin .mul (.t 8) (.k (.i .u64 285870213051353865)),0⟩,⟨some 10,none,.bin .shr (.t 9) (.k (.i .u64 58)),0⟩,⟨some 11,none,.iadra 1 64 (.k (.p (some (0,0)))) (.t 10),0⟩,oL 12 11 0,⟨some 13,none,.conv .i64 (.t 12),0⟩,oM 2 13 0])
 (.cut [2] [] .ret))))⟩
theorem ok78 : okFn Tryd.prog 2 Tryd.f78 a78 = true := by kernel_rfl
def a79 : AFn := ⟨2,23,[.t 4],
    .seq (.reg false [oB 2 39 0 0,oI 4 0 0])
 (.seq (.reg true [oF 7 1 2 0,oL 8 7 1,oM 9 1 0,oX 10 .shr 8 9 7,⟨some 11,none,.bin .and (.t 10) (.k (.i .u64 1)),15⟩,⟨some 12,none,.conv .i64 (.t 11),31⟩,oF 13 2 2 0,oL 14 13 64,oM 15 1 0,oX 16 .shr 14 15 448,⟨some 17,none,.bin .and (.t 16) (.k (.i .u64 1)),960⟩,⟨some 18,none,.conv .i64 (.t 17),1984⟩,oM 5 12 63,oM 6 18 8191])
 (.seq (.reg false [oM 19 5 0,oM 20 6 0,⟨some 21,none,.bin .mul (.k (.i .i64 3)) (.t 20),0⟩,oX 22 .xor 19 21 0,oM 4 22 0])
 (.cut [4] [] .ret)))⟩
theorem ok79 : okFn Tryd.prog 2 Tryd.f79 a79 = true := by kernel_rfl
def a80 : AFn := ⟨1,6,[.t 2],
    .seq (.reg false [oI 2 0 0])
 (.seq (.reg false [oM 3 0 0,oC 4 0 52 [.t 3] 0,⟨some 5,none,.fld 1 none (.t 4),0⟩,oM 2 5 0])
 (.cut [2] [] .ret))⟩
theorem ok80 : okFn Tryd.prog 2 Tryd.f80 a80 = true := by kernel_rfl
def a81 : AFn := ⟨2,9,[.t 4],
    .seq (.reg false [oU 4 0])
 (.seq (.reg false [oM 5 0 0,oM 6 1 0,oC 7 0 98 [.t 5,.t 6] 0,oY 8 .geq 7 0 0,oM 4 8 0])
 (.cut [4] [] .ret))⟩
theorem ok81 : okFn Tryd.prog 2 Tryd.f81 a81 = true := by kernel_rfl
def a82 : AFn := ⟨1,25,[.t 2],
    .seq (.reg false [⟨some 2,none,.mv (.k (.sl none 0 (.ex 0))),0⟩])
 (.seq (.reg false [⟨some 4,none,.bslice 9 1 2 [.s ⟨#[]⟩,.s ⟨#[]⟩] [(0,1,.k (.s ⟨#[43,88]⟩)),(1,1,.k (.s ⟨#[43,90]⟩))],0⟩,⟨some 5,none,.bslice 9 1 2 [.s ⟨#[]⟩,.s ⟨#[]⟩] [(0,1,.k (.s ⟨#[43,88]⟩)),(1,1,.k (.s ⟨#[45,90]⟩))],0⟩,⟨some 6,none,.bslice 9 1 2 [.s ⟨#[]⟩,.s ⟨#[]⟩] [(0,1,.k (.s ⟨#[45,88]⟩)),(1,1,.k (.s ⟨#[45,90]⟩))],0⟩,⟨some 7,none,.bslice 9 1 2 [.s ⟨#[]⟩,.s ⟨#[]⟩] [(0,1,.k (.s ⟨#[45,88]⟩)),(1,1,.k (.s ⟨#[43,90]⟩))],0⟩,⟨some 8,none,.bslice 9 1 2 [.s ⟨#[]⟩,.s ⟨#[]⟩] [(0,1,.k (.s ⟨#[43,89]⟩)),(1,1,.k (.s ⟨#[43,90]⟩))],0⟩,⟨some 9,none,.bslice 9 1 2 [.s ⟨#[]⟩,.s ⟨#[]⟩] [(0,1,.k (.s ⟨#[45,89]⟩)),(1,1,.k (.s ⟨#[43,90]⟩))],0⟩,⟨some 10,none,.bslice 9 1 2 [.s ⟨#[]⟩,.s ⟨#[]⟩] [(0,1,.k (.s ⟨#[43,88]⟩)),(1,1,.k (.s ⟨#[45,89]⟩))],0⟩,⟨some 11,none,.bslice 9 1 2 [.s ⟨#[]⟩,.s ⟨#[]⟩] [(0,1,.k (.s ⟨#[43,88]⟩)),(1,1,.k (.s ⟨#[43,89]⟩))],0⟩,⟨some 12,none,.bslice 9 1 2 [.s ⟨#[]⟩,.s ⟨#[]⟩] [(0,1,.k (.s ⟨#[45,90]⟩)),(1,1,.k (.s ⟨#[43,88]⟩))],0⟩,⟨some 13,none,.bslice 9 1 2 [.s ⟨#[]⟩,.s ⟨#[]⟩] [(0,1,.k (.s ⟨#[43,90]⟩)),(1,1,.k (.s ⟨#[45,88]⟩))],0⟩,⟨some 14,none,.bslice 9 1 4 [.s ⟨#[]⟩,.s ⟨#[]⟩,.s ⟨#[]⟩,.s ⟨#[]⟩] [(0,1,.k (.s ⟨#[43,88,88]⟩)),(1,1,.k (.s ⟨#[43,90,73]⟩)),(2,1,.k (.s ⟨#[43,73,88]⟩)),(3,1,.k (.s ⟨#[43,90,90]⟩))],0⟩,⟨some 15,none,.bslice 9 1 4 [.s ⟨#[]⟩,.s ⟨#[]⟩,.s ⟨#[]⟩,.s ⟨#[]⟩] [(0,1,.k (.s ⟨#[43,88,89]⟩)),(1,1,.k (.s ⟨#[43,90,73]⟩)),(2,1,.k (.s ⟨#[43,90,88]⟩)),(3,1,.k (.s ⟨#[43,90,90]⟩))],0⟩,⟨some 16,none,.bslice 9 1 4 [.s ⟨#[]⟩,.s ⟨#[]⟩,.s ⟨#[]⟩,.s ⟨#[]⟩] [(0,1,.k (.s ⟨#[43,88,90]⟩)),(1,1,.k (.s ⟨#[43,90,73]⟩)),(2,1,.k (.s ⟨#[43,90,88]⟩)),(3,1,.k (.s ⟨#[43,73,90]⟩))],0⟩,⟨some 17,none,.bslice 9 1 4 [.s ⟨#[]⟩,.s ⟨#[]⟩,.s ⟨#[]⟩,.s ⟨#[]⟩] [(0,1,.k (.s ⟨#[43,73,88]⟩)),(1,1,.k (.s ⟨#[43,73,90]⟩)),(2,1,.k (.s ⟨#[43,88,73]⟩)),(3,1,.k (.s ⟨#[43,90,73]⟩))],0⟩,⟨some 18,none,.bslice 9 1 4 [.s ⟨#[]⟩,.s ⟨#[]⟩,.s ⟨#[]⟩,.s ⟨#[]⟩] [(0,1,.k (.s ⟨#[43,90,89]⟩)),(1,1,.k (.s ⟨#[43,73,90]⟩)),(2,1,.k (.s ⟨#[43,89,90]⟩)),(3,1,.k (.s ⟨#[43,90,73]⟩))],0⟩,⟨some 19,none,.bslice 9 1 4 [.s ⟨#[]⟩,.s ⟨#[]⟩,.s ⟨#[]⟩,.s ⟨#[]⟩] [(0,1,.k (.s ⟨#[45,90,89]⟩)),(1,1,.k (.s ⟨#[43,73,90]⟩)),(2,1,.k (.s ⟨#[45,89,90]⟩)),(3,1,.k (.s ⟨#[43,90,73]⟩))],0⟩,⟨some 20,none,.bslice 9 1 4 [.s ⟨#[]⟩,.s ⟨#[]⟩,.s ⟨#[]⟩,.s ⟨#[]⟩] [(0,1,.k (.s ⟨#[43,90,73]⟩)),(1,1,.k (.s ⟨#[43,88,73]⟩)),(2,1,.k (.s ⟨#[43,73,90]⟩)),(3,1,.k (.s ⟨#[43,73,88]⟩))],0⟩,⟨some 21,none,.build [.sl none 0 (.ex 0),.sl none 0 (.ex 0),.sl none 0 (.ex 0),.sl none 0 (.ex 0),.sl none 0 (.ex 0),.sl none 0 (.ex 0),.sl none 0 (.ex 0),.sl none 0 (.ex 0),.sl none 0 (.ex 0),.sl none 0 (.ex 0),.sl none 0 (.ex 0),.sl none 0 (.ex 0),.sl none 0 (.ex 0),.sl none 0 (.ex 0),.sl none 0 (.ex 0),.sl none 0 (.ex 0),.sl none 0 (.ex 0),.sl none 0 (.ex 0)] [(1,1,.t 4),(2,1,.t 5),(3,1,.t 6),(4,1,.t 7),(5,1,.t 8),(6,1,.t 9),(7,1,.t 10),(8,1,.t 11),(9,1,.t 12),(10,1,.t 13),(11,1,.t 14),(12,1,.t 15),(13,1,.t 16),(14,1,.t 17),(15,1,.t 18),(16,1,.t 19),(17,1,.t 20)],0⟩,⟨some 3,none,.alloc true 128 [.sl none 0 (.ex 0),.sl none 0 (.ex 0),.sl none 0 (.ex 0),.sl none 0 (.ex 0),.sl none 0 (.ex 0),.sl none 0 (.ex 0),.sl none 0 (.ex 0),.sl none 0 (.ex 0),.sl none 0 (.ex 0),.sl none 0 (.ex 0),.sl none 0 (.ex 0),.sl none 0 (.ex 0),.sl none 0 (.ex 0),.sl none 0 (.ex 0),.sl none 0 (.ex 0),.sl none 0 (.ex 0),.sl none 0 (.ex 0),.sl none 0 (.ex 0)],0⟩,oS 18 3 21 0])
 (.seq (.reg false [oM 22 0 0,⟨some 23,none,.iadra 1 18 (.t 3) (.t 22),0⟩,oL 24 23 0,oM 2 24 0])
 (.cutg 2 [2] [] .ret)))⟩
theorem ok82 : okFn Tryd.prog 2 Tryd.f82 a82 = true := by kernel_rfl
def a83L0 : AC := .cut [0,6,7,17,18,19] [6,7] (.seq (.reg false [oX 20 .lss 19 18 0])
 (.seq (.ite (.t 20) (.skip) (.cut [6,7] [6,7] (.exit 0)))
 (.cut [0,6,7,17,18,19] [6,7] (.seq (.blk 1 (.seq (.reg false [oM 21 19 0,oA 22 1 17 19 0,oL 23 22 0,oM 8 21 0,oM 9 23 0])
 (.seq (.reg false [oM 24 0 0,oM 25 8 0,oY 26 .add 25 0 1,⟨some 27,none,.idxs (.t 24) (.t 26),0⟩,⟨some 28,none,.call 0 (.k (.fn (.func 99) [] [])) [.k (.s ⟨#[73,88,89,90]⟩),.t 27],0⟩,oM 10 28 0])
 (.seq (.seq (.reg false [oM 29 10 0,oY 30 .eql 29 0 1,oM 31 30 0,gf 31 (oM 32 10 0),gf 31 (oY 33 .eql 32 0 2),oP 34 31 33 0])
 (.ite (.t 34) (.reg true [oF 35 1 7 0,oL 36 35 1,oM 37 9 0,⟨some 38,none,.bin .shl (.k (.i .u64 1)) (.t 37),4⟩,oX 39 .or 36 38 15,oF 40 1 7 31,oS 1 40 39 63]) (.skip)))
 (.cut [0,6,7,9,10,17,18,19] [6,7] (.seq (.reg false [oM 41 10 0,oY 42 .geq 41 0 2])
 (.ite (.t 42) (.reg true [oF 43 2 7 0,oL 44 43 1,oM 45 9 0,⟨some 46,none,.bin .shl (.k (.i .u64 1)) (.t 45),4⟩,oX 47 .or 44 46 15,oF 48 2 7 31,oS 1 48 47 63]) (.skip))))))))
 (.cut [0,6,7,17,18,19] [6,7] (.reg false [oY 49 .add 19 0 1,oM 19 49 0]))))))
def a83 : AFn := ⟨3,51,[.cell 6 (some 4)],
    .seq (.reg false [⟨some 6,none,.alloc true 39 [.i .i64 0,.i .u64 0,.i .u64 0,.i .i64 0],0⟩])
 (.seq (.reg false [oM 11 1 0,⟨some 12,none,.build [.i .i64 0,.i .u64 0,.i .u64 0,.i .i64 0] [(0,1,.t 11)],0⟩,⟨some 7,none,.alloc true 39 [.i .i64 0,.i .u64 0,.i .u64 0,.i .i64 0],0⟩,oS 4 7 12 0])
 (.seq (.seq (.reg false [oM 13 0 0,⟨some 14,none,.idxs (.t 13) (.k (.i .i64 0)),0⟩,⟨some 15,none,.bin .eql (.t 14) (.k (.i .u8 45)),0⟩])
 (.ite (.t 15) (.reg false [oF 16 3 7 0,⟨none,none,.store 1 (.t 16) (.k (.i .i64 2)),0⟩]) (.skip)))
 (.cut [0,2,6,7] [6,7] (.seq (.seq (.reg false [oM 17 2 0,oG 18 17 0,oI 19 0 0])
 (.blk 0 (.loop a83L0)))
 (.cut [6,7] [6,7] (.seq (.reg false [oJ 50 4 7 0,oS 4 6 50 0])
 (.cut [6] [6] .ret)))))))⟩
theorem ok83 : okFn Tryd.prog 2 Tryd.f83 a83 = true := by kernel_rfl
def a84 : AFn := ⟨0,22,[.cell 0 (some 84)],
    .seq (.reg false [⟨some 0,none,.alloc true 116 [.s ⟨#[]⟩,.i .i64 0,.i .i64 0,.i .i64 0,.s ⟨#[]⟩,.i .i64 0,.i .i64 0,.i .i64 0,.s ⟨#[]⟩,.i .i64 0,.i .i64 0,.i .i64 0,.s ⟨#[]⟩,.i .i64 0,.i .i64 0,.i .i64 0,.s ⟨#[]⟩,.i .i64 0,.i .i64 0,.i .i64 0,.s ⟨#[]⟩,.i .i64 0,.i .i64 0,.i .i64 0,.s ⟨#[]⟩,.i .i64 0,.i .i64 0,.i .i64 0,.s ⟨#[]⟩,.i .i64 0,.i .i64 0,.i .i64 0,.s ⟨#[]⟩,.i .i64 0,.i .i64 0,.i .i64 0,.s ⟨#[]⟩,.i .i64 0,.i .i64 0,.i .i64 0,.s ⟨#[]⟩,.i .i64 0,.i .i64 0,.i .i64 0,.s ⟨#[]⟩,.i .i64 0,.i .i64 0,.i .i64 0,.s ⟨#[]⟩,.i .i64 0,.i .i64 0,.i .i64 0,.s ⟨#[]⟩,.i .i64 0,.i .i64 0,.i .i64 0,.s ⟨#[]⟩,.i .i64 0,.i .i64 0,.i .i64 0,.s ⟨#[]⟩,.i .i64 0,.i .i64 0,.i .i64 0,.s ⟨#[]⟩,.i .i64 0,.i .i64 0,.i .i64 0,.s ⟨#[]⟩,.i .i64 0,.i .i64 0,.i .i64 0,.s ⟨#[]⟩,.i .i64 0,.i .i64 0,.i .i64 0,.s ⟨#[]⟩,.i .i64 0,.i .i64 0,.i .i64 0,.s ⟨#[]⟩,.i .i64 0,.i .i64 0,.i .i64 0],0⟩])
 (.seq (.reg false [⟨some 1,none,.build [.s ⟨#[]⟩,.i .i64 0,.i .i64 0,.i .i64 0] [(0,1,.k (.s ⟨#[105,100]⟩)),(1,1,.k (.i .i64 1)),(2,1,.k (.i .i64 0)),(3,1,.k (.i .i64 1))],0⟩,⟨some 2,none,.build [.s ⟨#[]⟩,.i .i64 0,.i .i64 0,.i .i64 0] [(0,1,.k (.s ⟨#[120]⟩)),(1,1,.k (.i .i64 1)),(2,1,.k (.i .i64 0)),(3,1,.k (.i .i64 2))],0⟩,⟨some 3,none,.build [.s ⟨#[]⟩,.i .i64 0,.i .i64 0,.i .i64 0] [(0,1,.k (.s ⟨#[121]⟩)),(1,1,.k (.i .i64 1)),(2,1,.k (.i .i64 0)),(3,1,.k (.i .i64 3))],0⟩,⟨some 4,none,.build [.s ⟨#[]⟩,.i .i64 0,.i .i64 0,.i .i64 0] [(0,1,.k (.s ⟨#[122]⟩)),(1,1,.k (.i .i64 1)),(2,1,.k (.i .i64 0)),(3,1,.k (.i .i64 4))],0⟩,⟨some 5,none,.build [.s ⟨#[]⟩,.i .i64 0,.i .i64 0,.i .i64 0] [(0,1,.k (.s ⟨#[115]⟩)),(1,1,.k (.i .i64 1)),(2,1,.k (.i .i64 0)),(3,1,.k (.i .i64 6))],0⟩,⟨some 6,none,.build [.s ⟨#[]⟩,.i .i64 0,.i .i64 0,.i .i64 0] [(0,1,.k (.s ⟨#[115,100,103]⟩)),(1,1,.k (.i .i64 1)),(2,1,.k (.i .i64 0)),(3,1,.k (.i .i64 5))],0⟩,⟨some 7,none,.build [.s ⟨#[]⟩,.i .i64 0,.i .i64 0,.i .i64 0] [(0,1,.k (.s ⟨#[115,120]⟩)),(1,1,.k (.i .i64 1)),(2,1,.k (.i .i64 0)),(3,1,.k (.i .i64 8))],0⟩,⟨some 8,none,.build [.s ⟨#[]⟩,.i .i64 0,.i .i64 0,.i .i64 0] [(0,1,.k (.s ⟨#[115,120,100,103]⟩)),(1,1,.k (.i .i64 1)),(2,1,.k (.i .i64 0)),(3,1,.k (.i .i64 7))],0⟩,⟨some 9,none,.build [.s ⟨#[]⟩,.i .i64 0,.i .i64 0,.i .i64 0] [(0,1,.k (.s ⟨#[115,121]⟩)),(1,1,.k (.i .i64 1)),(2,1,.k (.i .i64 0)),(3,1,.k (.i .i64 10))],0⟩,⟨some 10,none,.build [.s ⟨#[]⟩,.i .i64 0,.i .i64 0,.i .i64 0] [(0,1,.k (.s ⟨#[115,121,100,103]⟩)),(1,1,.k (.i .i64 1)),(2,1,.k (.i .i64 0)),(3,1,.k (.i .i64 9))],0⟩,⟨some 11,none,.build [.s ⟨#[]⟩,.i .i64 0,.i .i64 0,.i .i64 0] [(0,1,.k (.s ⟨#[99,120]⟩)),(1,1,.k (.i .i64 2)),(2,1,.k (.i .i64 1)),(3,1,.k (.i .i64 11))],0⟩,⟨some 12,none,.build [.s ⟨#[]⟩,.i .i64 0,.i .i64 0,.i .i64 0] [(0,1,.k (.s ⟨#[99,121]⟩)),(1,1,.k (.i .i64 2)),(2,1,.k (.i .i64 1)),(3,1,.k (.i .i64 12))],0⟩,⟨some 13,none,.build [.s ⟨#[]⟩,.i .i64 0,.i .i64 0,.i .i64 0] [(0,1,.k (.s ⟨#[99,122]⟩)),(1,1,.k (.i .i64 2)),(2,1,.k (.i .i64 0)),(3,1,.k (.i .i64 13))],0⟩,⟨some 14,none,.build [.s ⟨#[]⟩,.i .i64 0,.i .i64 0,.i .i64 0] [(0,1,.k (.s ⟨#[115,119,97,112]⟩)),(1,1,.k (.i .i64 2)),(2,1,.k (.i .i64 0)),(3,1,.k (.i .i64 14))],0⟩,⟨some 15,none,.build [.s ⟨#[]⟩,.i .i64 0,.i .i64 0,.i .i64 0] [(0,1,.k (.s ⟨#[105,115,119,97,112]⟩)),(1,1,.k (.i .i64 2)),(2,1,.k (.i .i64 0)),(3,1,.k (.i .i64 16))],0⟩,⟨some 16,none,.build [.s ⟨#[]⟩,.i .i64 0,.i .i64 0,.i .i64 0] [(0,1,.k (.s ⟨#[105,115,119,97,112,100,103]⟩)),(1,1,.k (.i .i64 2)),(2,1,.k (.i .i64 0)),(3,1,.k (.i .i64 15))],0⟩,⟨some 17,none,.build [.s ⟨#[]⟩,.i .i64 0,.i .i64 0,.i .i64 0] [(0,1,.k (.s ⟨#[104,104]⟩)),(1,1,.k (.i .i64 2)),(2,1,.k (.i .i64 0)),(3,1,.k (.i .i64 17))],0⟩,⟨some 18,none,.build [.s ⟨#[]⟩,.i .i64 0,.i .i64 0,.i .i64 0] [(0,1,.k (.s ⟨#[99,99,120]⟩)),(1,1,.k (.i .i64 3)),(2,1,.k (.i .i64 2)),(3,1,.k (.i .i64 18))],0⟩,⟨some 19,none,.build [.s ⟨#[]⟩,.i .i64 0,.i .i64 0,.i .i64 0] [(0,1,.k (.s ⟨#[99,99,122]⟩)),(1,1,.k (.i .i64 3)),(2,1,.k (.i .i64 0)),(3,1,.k (.i .i64 19))],0⟩,⟨some 20,none,.build [.s ⟨#[]⟩,.i .i64 0,.i .i64 0,.i .i64 0] [(0,1,.k (.s ⟨#[99,115,119,97,112]⟩)),(1,1,.k (.i .i64 3)),(2,1,.k (.i .i64 1)),(3,1,.k (.i .i64 20))],0⟩,⟨some 21,none,.build [.s ⟨#[]⟩,.i .i64 0,.i .i64 0,.i .i64 0,.s ⟨#[]⟩,.i .i64 0,.i .i64 0,.i .i64 0,.s ⟨#[]⟩,.i .i64 0,.i .i64 0,.i .i64 0,.s ⟨#[]⟩,.i .i64 0,.i .i64 0,.i .i64 0,.s ⟨#[]⟩,.i .i64 0,.i .i64 0,.i .i64 0,.s ⟨#[]⟩,.i .i64 0,.i .i64 0,.i .i64 0,.s ⟨#[]⟩,.i .i64 0,.i .i64 0,.i .i64 0,.s ⟨#[]⟩,.i .i64 0,.i .i64 0,.i .i64 0,.s ⟨#[]⟩,.i .i64 0,.i .i64 0,.i .i64 0,.s ⟨#[]⟩,.i .i64 0,.i .i64 0,.i .i64 0,.s ⟨#[]⟩,.i .i64 0,.i .i64 0,.i .i64 0,.s ⟨#[]⟩,.i .i64 0,.i .i64 0,.i .i64 0,.s ⟨#[]⟩,.i .i64 0,.i .i64 0,.i .i64 0,.s ⟨#[]⟩,.i .i64 0,.i .i64 0,.i .i64 0,.s ⟨#[]⟩,.i .i64 0,.i .i64 0,.i .i64 0,.s ⟨#[]⟩,.i .i64 0,.i .i64 0,.i .i64 0,.s ⟨#[]⟩,.i .i64 0,.i .i64 0,.i .i64 0,.s ⟨#[]⟩,.i .i64 0,.i .i64 0,.i .i64 0,.s ⟨#[]⟩,.i .i64 0,.i .i64 0,.i .i64 0,.s ⟨#[]⟩,.i .i64 0,.i .i64 0,.i .i64 0,.s ⟨#[]⟩,.i .i64 0,.i .i64 0,.i .i64 0] [(4,4,.t 1),(8,4,.t 2),(12,4,.t 3),(16,4,.t 4),(20,4,.t 5),(24,4,.t 6),(28,4,.t 7),(32,4,.t 8),(36,4,.t 9),(40,4,.t 10),(44,4,.t 11),(48,4,.t 12),(52,4,.t 13),(56,4,.t 14),(60,4,.t 15),(64,4,.t 16),(68,4,.t 17),(72,4,.t 18),(76,4,.t 19),(80,4,.t 20)],0⟩,oS 84 0 21 0])
 (.cut [0] [0] .ret))⟩
theorem ok84 : okFn Tryd.prog 2 Tryd.f84 a84 = true := by kernel_rfl
def a85 : AFn := ⟨2,22,[.t 4],
    .seq (.reg false [oB 2 39 0 0,⟨some 4,none,.mv (.k (.i .u64 0)),0⟩])
 (.seq (.seq (.reg false [oM 5 1 0,oF 6 0 2 0,oL 7 6 0,oX 8 .lss 5 7 0])
 (.ite (.t 8) (.seq (.reg false [oF 9 1 2 0,oL 10 9 0,oM 11 1 0,oX 12 .shr 10 11 0,⟨some 13,none,.bin .and (.t 12) (.k (.i .u64 1)),0⟩,oM 4 13 0])
 (.cut [4] [] .ret)) (.skip)))
 (.cut [1,2] [2] (.seq (.reg false [oF 14 2 2 0,oL 15 14 0,oM 16 1 0,oF 17 0 2 0,oL 18 17 0,oX 19 .sub 16 18 0,oX 20 .shr 15 19 0,⟨some 21,none,.bin .and (.t 20) (.k (.i .u64 1)),0⟩,oM 4 21 0])
 (.cut [4] [] .ret))))⟩
theorem ok85 : okFn Tryd.prog 2 Tryd.f85 a85 = true := by kernel_rfl
def a86 : AFn := ⟨2,14,[.cell 4 (some 4)],
    .seq (.reg false [oB 2 39 0 0,oB 3 39 1 0,⟨some 4,none,.alloc true 39 [.i .i64 0,.i .u64 0,.i .u64 0,.i .i64 0],0⟩])
 (.seq (.reg false [oJ 8 4 2 0,oJ 9 4 3 0,oC 10 0 18 [.t 8,.t 9] 0,oM 7 10 0,oE 11 7 0 0,oE 12 7 1 0,⟨some 5,none,.alloc true 39 [.i .i64 0,.i .u64 0,.i .u64 0,.i .i64 0],0⟩,oS 4 5 11 0,oM 6 12 0])
 (.seq (.reg false [oJ 13 4 5 0,oS 4 4 13 0])
 (.cut [4] [4] .ret)))⟩
theorem ok86 : okFn Tryd.prog 2 Tryd.f86 a86 = true := by kernel_rfl
def a87 : AFn := ⟨2,10,[.t 3],
    .seq (.reg false [oB 2 39 0 0,oU 3 0])
 (.seq (.reg false [oF 4 1 2 0,oL 5 4 0,oL 6 1 0,oX 7 .shr 5 6 0,⟨some 8,none,.bin .and (.t 7) (.k (.i .u64 1)),0⟩,⟨some 9,none,.bin .eql (.t 8) (.k (.i .u64 1)),0⟩,oM 3 9 0])
 (.cut [3] [] .ret))⟩
theorem ok87 : okFn Tryd.prog 2 Tryd.f87 a87 = true := by kernel_rfl
def a88L0 : AC := .cut [0,1,2,3,7,8,9] [] (.seq (.reg false [oX 10 .lss 9 8 0])
 (.seq (.ite (.t 10) (.skip) (.cut [] [] (.exit 0)))
 (.cut [0,1,2,3,7,8,9] [] (.seq (.blk 1 (.seq (.reg false [oM 11 9 0,oA 12 4 7 9 0,oJ 13 4 12 0,⟨some 6,none,.alloc true 39 [.i .i64 0,.i .u64 0,.i .u64 0,.i .i64 0],0⟩,oM 5 11 0,oS 4 6 13 0])
 (.seq (.reg false [oM 14 5 0,oL 15 1 0,oX 16 .neq 14 15 0,oM 17 16 0,gt 17 (oJ 18 4 6 0),gt 17 (oJ 19 4 2 0),gt 17 (oC 20 0 40 [.t 18,.t 19] 0),gt 17 (oN 21 20 0),oQ 22 17 21 0])
 (.ite (.t 22) (.reg true [oM 23 0 0,oM 24 5 0,oJ 25 4 6 0,oF 26 1 3 0,oL 27 26 8,oL 28 1 0,oA 29 4 27 28 56,oJ 30 4 29 120,oC 31 0 86 [.t 25,.t 30] 252,oA 32 4 23 24 511,oS 4 32 31 1023]) (.skip)))))
 (.cut [0,1,2,3,7,8,9] [] (.reg false [oY 33 .add 9 0 1,oM 9 33 0]))))))
def a88 : AFn := ⟨4,34,[],
    .seq (.reg false [oM 7 0 0,oG 8 7 0,oI 9 0 0])
 (.blk 0 (.loop a88L0))⟩
theorem ok88 : okFn Tryd.prog 2 Tryd.f88 a88 = true := by kernel_rfl
def a97 : AFn := ⟨1,37,[.t 2],
    .seq (.reg false [oB 1 39 0 0,oI 2 0 0])
 (.seq (.seq (.reg false [oF 3 0 1 0,oL 4 3 0,oY 5 .lss 4 0 0,oM 6 5 0,gf 6 (oF 7 0 1 0),gf 6 (oL 8 7 0),gf 6 (oY 9 .gtr 8 0 64),oP 10 6 9 0,oM 11 10 0,gf 11 (oF 12 3 1 0),gf 11 (oL 13 12 0),gf 11 (oY 14 .lss 13 0 0),oP 15 11 14 0,oM 16 15 0,gf 16 (oF 17 3 1 0),gf 16 (oL 18 17 0),gf 16 (oY 19 .gtr 18 0 3),oP 20 16 19 0,oM 21 20 0,gf 21 (oF 22 0 1 0),gf 21 (oL 23 22 0),gf 21 (oY 24 .lss 23 0 64),gf 21 (oM 25 24 0),gt 25 (oF 26 1 1 0),gt 25 (oL 27 26 0),gt 25 (oF 28 2 1 0),gt 25 (oL 29 28 0),gt 25 (oX 30 .or 27 29 0),gt 25 (oF 31 0 1 0),gt 25 (oL 32 31 0),gt 25 (oX 33 .shr 30 32 0),gt 25 ⟨some 34,none,.bin .neq (.t 33) (.k (.i .u64 0)),0⟩,gf 21 (oQ 35 25 34 0),oP 36 21 35 0])
 (.ite (.t 36) (.seq (.reg false [oI 2 0 130])
 (.cut [2] [] .ret)) (.skip)))
 (.cut [] [] (.seq (.reg false [oI 2 0 0])
 (.cut [2] [] .ret))))⟩
theorem ok97 : okFn Tryd.prog 2 Tryd.f97 a97 = true := by kernel_rfl
def a98L0 : AC := .cut [0,1,7,8] [] (.seq (.reg false [oX 9 .lss 8 7 0])
 (.seq (.ite (.t 9) (.skip) (.cut [] [] (.exit 0)))
 (.cut [0,1,7,8] [] (.seq (.blk 1 (.seq (.reg false [oM 10 8 0,oM 5 10 0])
 (.seq (.reg false [oM 11 1 0,oM 12 0 0,oM 13 5 0,oA 14 1 12 13 0,oL 15 14 0,oX 16 .eql 11 15 0])
 (.ite (.t 16) (.seq (.reg false [oM 17 5 0,oM 4 17 0])
 (.cut [4] [] .ret)) (.skip)))))
 (.cut [0,1,7,8] [] (.reg false [oY 18 .add 8 0 1,oM 8 18 0]))))))
def a98 : AFn := ⟨2,19,[.t 4],
    .seq (.reg false [oI 4 0 0])
 (.seq (.seq (.reg false [oM 6 0 0,oG 7 6 0,oI 8 0 0])
 (.blk 0 (.loop a98L0)))
 (.cut [] [] (.seq (.reg false [oI 4 0 (-1)])
 (.cut [4] [] .ret))))⟩
theorem ok98 : okFn Tryd.prog 2 Tryd.f98 a98 = true := by kernel_rfl
def a99 : AFn := ⟨2,8,[.t 4],
    .seq (.reg false [oI 4 0 0])
 (.seq (.reg false [oM 5 0 0,oM 6 1 0,oC 7 0 107 [.t 5,.t 6] 0,oM 4 7 0])
 (.cut [4] [] .ret))⟩
theorem ok99 : okFn Tryd.prog 2 Tryd.f99 a99 = true := by kernel_rfl
end Go.Proofs.YtogkkamlmklpkaaDoor.Ab
