/- The seat's oracle, by contents; the memory that a call by contents finds. No condition. -/
import Derived.Test.YtchgkmdonhdfeaaGreatDoorC1
import Derived.Test.YtchgkmdonhdfeaaGreatDoorAD
set_option linter.unusedSimpArgs false
set_option linter.unusedVariables false
set_option maxRecDepth 100000
namespace Go.Proofs.YtchgkmdonhdfeaaGreatDoor.Ab
open Go
structure Pl where
 N:Int
 X:BitVec 64
 Z:BitVec 64
 Ph:Int
 deriving DecidableEq
def Pl.cells (p:Pl):List AV:=[.i .i64 p.N,.i .u64 (U p.X),.i .u64 (U p.Z),.i .i64 p.Ph]
structure Cpx where
 re:BitVec 64
 im:BitVec 64
 deriving DecidableEq
def Cpx.cells (p:Cpx):List AV:=[.c .f64 p.re.toNat p.im.toNat]
def G0:AHeap:=[(1,tab64)]
open Classical in
noncomputable def O1 (p:Bool):Orc:=fun g args h n fl=>if g=12 then (if p=true∧args=[]∧fl=n+1∧hglb h 3=G0 then some (.b true,none) else none) else O0 g args h n fl
def fs1 (g:Nat):Option AFn:=bif Nat.beq g 12 then none else fs g
theorem O1_of {p:Bool}{g:Nat}{args:List AV}{h:AHeap}{n fl:Nat}(hg:g≠12):O1 p g args h n fl=O0 g args h n fl:=by unfold O1;rw [if_neg hg]
noncomputable def OV (F D:Nat):Orc:=evV 3 (O1 (Nat.blt 200 F)) fs1 F D
theorem hglb_G0 {h:AHeap}(h0:hget h 0=none)(h1:hget h 1=some tab64)(h2:hget h 2=none):hglb h 3=G0:=by
 have hn:AV.nors tab64.cells=true:=rfl
 simp only [hglb,h0,h1,h2,hn,cond_true,G0]
 rfl
def zs64:List Int:=[0,1,56,2,57,49,28,3,61,58,42,50,38,29,17,4,62,47,59,36,45,43,51,22,53,39,33,30,24,18,12,5,63,55,48,27,60,41,37,16,46,35,44,21,52,32,23,11,54,26,40,15,34,20,31,10,25,14,19,9,13,8,7,6]
theorem tab64_eq:tab64.cells=zs64.map (AV.i .u8):=rfl
theorem tab_at {j z:Int}(h:idx zs64 j=some z):apart_ tab64.cells j.toNat none=some (.i .u8 z):=by
 obtain ⟨_,_,h2⟩:=idx_some h
 show tab64.cells[j.toNat]? = _
 rw [tab64_eq,List.getElem?_map,h2]
 rfl
theorem tab_inb {j z:Int}(h:idx zs64 j=some z):inb j 64=true:=idx_inb h
theorem tab_out {j:Int}(h:idx zs64 j=none):inb j 64=false:=idx_out h
theorem nors_tab:AV.nors tab64.cells=true:=rfl
theorem olds_tab {n:Nat}:AV.olds n tab64.cells=true:=olds_nors nors_tab
theorem idss_tab {b:Nat}{l:List Nat}:AV.idss b tab64.cells l=l:=idss_nors nors_tab
theorem rens_tab {b c:Nat}{l:List Nat}:AV.rens b c l tab64.cells=some tab64.cells:=rens_id nors_tab
theorem own_tab:tab64.own=false:=rfl
def ownE {α:Type}(c:α→List AV)(ty esz:Nat)(e:AV)(l:List α)(n:Nat):AV×AHeap×Nat:=if l=[] then (e,[],n) else (.sl (some (n,0)) l.length (.ex l.length),[(n,⟨true,false,ty,esz,enc c l⟩)],n+1)
theorem set_ne {α:Type}{l:List α}{j:Nat}{x y:α}(h:l[j]? = some x):(l.set j y=[])=False:=eq_false fun q=>by
 rw [List.set_eq_nil_iff] at q
 rw [q] at h
 simp at h
def ownS {α:Type}(c:α→List AV)(ty esz:Nat)(e:AV)(l:List α)(n:Nat):AV×AHeap×Nat:=if l=[] then (e,[],n) else (.sl (some (n,0)) l.length .op,[(n,⟨true,true,ty,esz,enc c l⟩)],n+1)
theorem k152 {F D n fl:Nat}{s:ByteArray}{c:Int}{h:AHeap}:OV F D 152 [.s s,.i .u8 c] h n fl=some (.i .i64 (Lib.indexByte s.data.toList c.toNat.toUInt8),none):=(evV_base rfl D).trans (O1_of (by decide))
theorem k12 {F D n:Nat}{h:AHeap}(hA:200<F):OV F D 12 [] h n (n+1)=open Classical in if hglb h 3=G0 then some (.b true,none) else none:=by
 have hb:Nat.blt 200 F=true:=(Nat.ble_eq (x:=201) (y:=F)).mpr hA
 have:OV F D 12 [] h n (n+1)=O1 true 12 [] h n (n+1):=by
  unfold OV;rw [hb];exact evV_base rfl D
 rw [this];unfold O1;rw [if_pos rfl]
 by_cases e:hglb h 3=G0
 ·rw [if_pos e,if_pos ⟨rfl,rfl,rfl,e⟩]
 ·rw [if_neg e,if_neg (fun q=>e q.2.2.2)]
theorem hglb_of_G0:hglb G0 3=G0:=rfl
def EVK:=PLift.up <| And.intro @hglb_of_G0 <| And.intro @ownS.eq_1 <| And.intro @ownE.eq_1 <| And.intro @hglb_G0 (And.intro @nors_tab (And.intro @olds_tab (And.intro @idss_tab (And.intro @rens_tab @own_tab))))
end Go.Proofs.YtchgkmdonhdfeaaGreatDoor.Ab
