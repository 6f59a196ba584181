/- The seat's oracle, by contents; the memory that a call by contents finds. No condition. -/
import Derived.Test.YtbbikmfjnanpmaaDoorC1
import Derived.Test.YtbbikmfjnanpmaaDoorAD
set_option linter.unusedSimpArgs false
set_option linter.unusedVariables false
set_option maxRecDepth 100000
namespace Go.Proofs.YtbbikmfjnanpmaaDoor.Ab
open Go
structure Pl where
 N:Int
 X:BitVec 64
 Z:BitVec 64
 Ph:Int
 deriving DecidableEq
def Pl.cells (p:Pl):List AV:=[.i .i64 p.N,.i .u64 (U p.X),.i .u64 (U p.Z),.i .i64 p.Ph]
structure Cpx where
 re:BitVec 64
 im:BitVec 64
 deriving DecidableEq
def Cpx.cells (p:Cpx):List AV:=[.c .f64 p.re.toNat p.im.toNat]
def G0:AHeap:=[(1,tab64)]
open Classical in
noncomputable def O1:Orc:=fun g args h n fl=>if g=15 then (if args=[]∧fl=n+1∧hglb h 3=G0 then some (.b true,none) else none) else O0 g args h n fl
def fs1 (g:Nat):Option AFn:=bif Nat.beq g 15 then none else fs g
theorem O1_of {g:Nat}{args:List AV}{h:AHeap}{n fl:Nat}(hg:g≠15):O1 g args h n fl=O0 g args h n fl:=by unfold O1;rw [if_neg hg]
noncomputable def OV (F D:Nat):Orc:=evV 3 O1 fs1 F D
theorem hglb_G0 {h:AHeap}(h0:hget h 0=none)(h1:hget h 1=some tab64)(h2:hget h 2=none):hglb h 3=G0:=by
 have hn:AV.nors tab64.cells=true:=rfl
 simp only [hglb,h0,h1,h2,hn,cond_true,G0]
 rfl
def zs64:List Int:=[0,1,56,2,57,49,28,3,61,58,42,50,38,29,17,4,62,47,59,36,45,43,51,22,53,39,33,30,24,18,12,5,63,55,48,27,60,41,37,16,46,35,44,21,52,32,23,11,54,26,40,15,34,20,31,10,25,14,19,9,13,8,7,6]
theorem tab64_eq:tab64.cells=zs64.map (AV.i .u8):=rfl
theorem tab_at {j z:Int}(h:idx zs64 j=some z):apart_ tab64.cells j.toNat none=some (.i .u8 z):=by
 obtain ⟨_,_,h2⟩:=idx_some h
 show tab64.cells[j.toNat]? = _
 rw [tab64_eq,List.getElem?_map,h2]
 rfl
theorem tab_inb {j z:Int}(h:idx zs64 j=some z):inb j 64=true:=idx_inb h
theorem tab_out {j:Int}(h:idx zs64 j=none):inb j 64=false:=idx_out h
theorem nors_tab:AV.nors tab64.cells=true:=rfl
theorem olds_tab {n:Nat}:AV.olds n tab64.cells=true:=olds_nors nors_tab
theorem idss_tab {b:Nat}{l:List Nat}:AV.idss b tab64.cells l=l:=idss_nors nors_tab
theorem rens_tab {b c:Nat}{l:List Nat}:AV.rens b c l tab64.cells=some tab64.cells:=rens_id nors_tab
theorem own_tab:tab64.own=false:=rfl
def ownS {α:Type}(c:α→List AV)(ty esz:Nat)(e:AV)(l:List α)(n:Nat):AV×AHeap×Nat:=if l=[] then (e,[],n) else (.sl (some (n,0)) l.length .op,[(n,⟨true,true,ty,esz,enc c l⟩)],n+1)
theorem k106 {F D n fl:Nat}{s:ByteArray}{c:Int}{h:AHeap}:OV F D 106 [.s s,.i .u8 c] h n fl=some (.i .i64 (Lib.indexByte s.data.toList c.toNat.toUInt8),none):=(evV_base rfl D).trans (O1_of (by decide))
def fAbs (x:BitVec 64):BitVec 64:=x &&& 9223372036854775807#64
theorem fabs_nat {x:BitVec 64}:x.toNat % 9223372036854775808=(fAbs x).toNat:=by
 unfold fAbs
 rw [BitVec.toNat_and]
 exact (Nat.and_two_pow_sub_one_eq_mod x.toNat 63).symm
theorem k115 {F D n fl:Nat}{x:BitVec 64}{h:AHeap}:OV F D 115 [.f .f64 x.toNat] h n fl=some (.f .f64 (fAbs x).toNat,none):=((evV_base rfl D).trans (O1_of (by decide))).trans (by show some (AV.f .f64 (x.toNat % 9223372036854775808),none)=_;rw [fabs_nat])
def fBits (x:BitVec 64):BitVec 64:=bif fNaN x then 9221120237041090561#64 else x
theorem fnan_blt {x:BitVec 64}:Nat.blt 9218868437227405312 (x.toNat % 9223372036854775808)=fNaN x:=by
 have a:fNaN x=_:=nan_iff x.toNat
 rw [a]
 by_cases h:2047*2 ^ 52<x.toNat % 2 ^ 63
 ·rw [decide_eq_true h];exact blt_t h
 ·rw [decide_eq_false h];exact blt_f h
theorem fbits_int {x:BitVec 64}:bitsN x.toNat=U (fBits x):=by
 unfold bitsN
 rw [fnan_blt]
 unfold fBits
 cases fNaN x with
 |false=>rfl
 |true=>rfl
theorem k40 {F D n fl:Nat}{x:BitVec 64}{h:AHeap}:OV F D 40 [.f .f64 x.toNat] h n fl=some (.i .u64 (U (fBits x)),none):=((evV_base rfl D).trans (O1_of (by decide))).trans (congrArg (fun z=>some (AV.i .u64 z,none)) fbits_int)
theorem k15 {F D n:Nat}{h:AHeap}:OV F D 15 [] h n (n+1)=open Classical in if hglb h 3=G0 then some (.b true,none) else none:=by
 have:OV F D 15 [] h n (n+1)=O1 15 [] h n (n+1):=evV_base rfl D
 rw [this];unfold O1;rw [if_pos rfl]
 by_cases e:hglb h 3=G0
 ·rw [if_pos e,if_pos ⟨rfl,rfl,e⟩]
 ·rw [if_neg e,if_neg (fun q=>e q.2.2)]
theorem hglb_of_G0:hglb G0 3=G0:=rfl
def EVK:=PLift.up <| And.intro @hglb_of_G0 <| And.intro @ownS.eq_1 <| And.intro @hglb_G0 (And.intro @nors_tab (And.intro @olds_tab (And.intro @idss_tab (And.intro @rens_tab @own_tab))))
end Go.Proofs.YtbbikmfjnanpmaaDoor.Ab
