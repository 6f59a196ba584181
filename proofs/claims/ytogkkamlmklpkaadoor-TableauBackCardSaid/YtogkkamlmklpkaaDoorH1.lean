/- Functions of the program as plain functions, and that the abstract machine's evaluation comes to them. Written by G.py. No condition. -/
import Derived.Test.YtogkkamlmklpkaaDoorHd
set_option maxRecDepth 100000
set_option maxHeartbeats 4000000
set_option linter.unusedVariables false
set_option linter.unusedSimpArgs false
namespace Go.Proofs.YtogkkamlmklpkaaDoor.Ab
open Go
theorem len_Pl_cells:∀ x,(Pl.cells x).length=4:=fun _=>rfl
theorem nors_Pl_cells (x:Pl):AV.nors (Pl.cells x)=true:=by simp only [Pl.cells,AV.nors,AV.nor,Bool.and_self]
theorem one_Pl_cells (x:Pl):(Pl.cells x).all AV.one=true:=by simp only [Pl.cells,List.all_cons,List.all_nil,AV.one,Bool.and_self]
theorem flat_Pl_cells (x:Pl):(Pl.cells x).all AV.flat1=true:=by simp only [Pl.cells,List.all_cons,List.all_nil,AV.flat1,Bool.and_self]
theorem encnors_Pl_cells (l:List Pl):AV.nors (enc Pl.cells l)=true:=enc_nors nors_Pl_cells l
theorem enclen_Pl_cells (l:List Pl):(enc Pl.cells l).length=l.length*4:=enc_len len_Pl_cells l
theorem encone_Pl_cells (l:List Pl):(enc Pl.cells l).all AV.one=true:=enc_all one_Pl_cells l
theorem encall_Pl_cells (l:List Pl):(enc Pl.cells l).all AV.flat1=true:=enc_all flat_Pl_cells l
theorem flatt_Pl_cells (x:Pl):(Pl.cells x).all AV.flat2=true:=by simp only [Pl.cells,List.all_cons,List.all_nil,AV.flat2,Bool.and_self]
theorem encflat_Pl_cells {q:Bool}{b:Nat}{h:AHeap}{f:Nat}(l:List Pl):frzs (frz q b h (f+1)) (enc Pl.cells l)=some (enc Pl.cells l):=frzs_flat2 (enc_all flatt_Pl_cells l)
theorem enctake_Pl_cells (l:List Pl):(enc Pl.cells l).take (l.length*4)=enc Pl.cells l:=by simpa only [Nat.mul_one] using enc_take len_Pl_cells l
theorem encids_Pl_cells {b:Nat}{l:List Nat}(m:List Pl):AV.idss b (enc Pl.cells m) l=l:=idss_nors (encnors_Pl_cells m)
theorem encren_Pl_cells {b c:Nat}{l:List Nat}(m:List Pl):AV.rens b c l (enc Pl.cells m)=some (enc Pl.cells m):=rens_id (encnors_Pl_cells m)
theorem encold_Pl_cells {b:Nat}(m:List Pl):AV.olds b (enc Pl.cells m)=true:=olds_nors (encnors_Pl_cells m)
theorem encpart_Pl_cells (l:List Pl)(k:Nat):(enc Pl.cells l).take (k*4)=enc Pl.cells (l.take k):=by simpa only [Nat.mul_one] using enc_takew len_Pl_cells l k
theorem encdrop_Pl_cells (l:List Pl)(k:Nat):(enc Pl.cells l).drop (k*4)=enc Pl.cells (l.drop k):=by simpa only [Nat.mul_one] using enc_dropw len_Pl_cells l k
theorem pk_Pl_cells {l:List Pl}{j:Int}{x:Pl}(h:idx l j=some x):idx l j=some x∧inb j l.length=true∧apart_ ((enc Pl.cells l).drop (j.toNat*4)) 0 (some 4)=some (.agg (Pl.cells x))∧apart_ ((enc Pl.cells l).drop (j.toNat*4)) 0 none=(Pl.cells x)[0]?∧apart_ (((enc Pl.cells l).drop (j.toNat*4)).drop 1) 0 none=(Pl.cells x)[1]?∧apart_ (((enc Pl.cells l).drop (j.toNat*4)).drop 2) 0 none=(Pl.cells x)[2]?∧apart_ (((enc Pl.cells l).drop (j.toNat*4)).drop 3) 0 none=(Pl.cells x)[3]?∧apart_ (enc Pl.cells l) (j.toNat*4) (some 4)=some (.agg (Pl.cells x))∧apart_ (enc Pl.cells l) (j.toNat*4) none=(Pl.cells x)[0]?∧apart_ (enc Pl.cells l) (j.toNat*4+1) none=(Pl.cells x)[1]?∧apart_ (enc Pl.cells l) (j.toNat*4+2) none=(Pl.cells x)[2]?∧apart_ (enc Pl.cells l) (j.toNat*4+3) none=(Pl.cells x)[3]?:=⟨h,idx_inb h,vp_row len_Pl_cells h,vp_cell0 len_Pl_cells h (by decide),vp_cell (k:=1) len_Pl_cells h (by decide),vp_cell (k:=2) len_Pl_cells h (by decide),vp_cell (k:=3) len_Pl_cells h (by decide),own_row len_Pl_cells h,own_cell0 len_Pl_cells h (by decide),own_cell (k:=1) len_Pl_cells h (by decide),own_cell (k:=2) len_Pl_cells h (by decide),own_cell (k:=3) len_Pl_cells h (by decide)⟩
def c3 (x:Int):List AV:=[.i .i64 x]
theorem len_c3:∀ x,(c3 x).length=1:=fun _=>rfl
theorem nors_c3 (x:Int):AV.nors (c3 x)=true:=by simp only [c3,AV.nors,AV.nor,Bool.and_self,encnors_Pl_cells]
theorem one_c3 (x:Int):(c3 x).all AV.one=true:=by simp only [c3,List.all_cons,List.all_nil,AV.one,Bool.and_self]
theorem flat_c3 (x:Int):(c3 x).all AV.flat1=true:=by simp only [c3,List.all_cons,List.all_nil,AV.flat1,Bool.and_self]
theorem encnors_c3 (l:List Int):AV.nors (enc c3 l)=true:=enc_nors nors_c3 l
theorem enclen_c3 (l:List Int):(enc c3 l).length=l.length*1:=enc_len len_c3 l
theorem encone_c3 (l:List Int):(enc c3 l).all AV.one=true:=enc_all one_c3 l
theorem encall_c3 (l:List Int):(enc c3 l).all AV.flat1=true:=enc_all flat_c3 l
theorem flatt_c3 (x:Int):(c3 x).all AV.flat2=true:=by simp only [c3,List.all_cons,List.all_nil,AV.flat2,Bool.and_self]
theorem encflat_c3 {q:Bool}{b:Nat}{h:AHeap}{f:Nat}(l:List Int):frzs (frz q b h (f+1)) (enc c3 l)=some (enc c3 l):=frzs_flat2 (enc_all flatt_c3 l)
theorem enctake_c3 (l:List Int):(enc c3 l).take l.length=enc c3 l:=by simpa only [Nat.mul_one] using enc_take len_c3 l
theorem encids_c3 {b:Nat}{l:List Nat}(m:List Int):AV.idss b (enc c3 m) l=l:=idss_nors (encnors_c3 m)
theorem encren_c3 {b c:Nat}{l:List Nat}(m:List Int):AV.rens b c l (enc c3 m)=some (enc c3 m):=rens_id (encnors_c3 m)
theorem encold_c3 {b:Nat}(m:List Int):AV.olds b (enc c3 m)=true:=olds_nors (encnors_c3 m)
theorem encpart_c3 (l:List Int)(k:Nat):(enc c3 l).take k=enc c3 (l.take k):=by simpa only [Nat.mul_one] using enc_takew len_c3 l k
theorem encdrop_c3 (l:List Int)(k:Nat):(enc c3 l).drop k=enc c3 (l.drop k):=by simpa only [Nat.mul_one] using enc_dropw len_c3 l k
theorem pk_c3 {l:List Int}{j:Int}{x:Int}(h:idx l j=some x):idx l j=some x∧inb j l.length=true∧apart_ ((enc c3 l).drop j.toNat) 0 none=(c3 x)[0]?∧apart_ (enc c3 l) j.toNat none=(c3 x)[0]?:=⟨h,idx_inb h,vp_one len_c3 h,own_one len_c3 h⟩
def c9 (x:ByteArray):List AV:=[.s x]
theorem len_c9:∀ x,(c9 x).length=1:=fun _=>rfl
theorem nors_c9 (x:ByteArray):AV.nors (c9 x)=true:=by simp only [c9,AV.nors,AV.nor,Bool.and_self,encnors_Pl_cells,encnors_c3]
theorem one_c9 (x:ByteArray):(c9 x).all AV.one=true:=by simp only [c9,List.all_cons,List.all_nil,AV.one,Bool.and_self]
theorem flat_c9 (x:ByteArray):(c9 x).all AV.flat1=true:=by simp only [c9,List.all_cons,List.all_nil,AV.flat1,Bool.and_self]
theorem encnors_c9 (l:List ByteArray):AV.nors (enc c9 l)=true:=enc_nors nors_c9 l
theorem enclen_c9 (l:List ByteArray):(enc c9 l).length=l.length*1:=enc_len len_c9 l
theorem encone_c9 (l:List ByteArray):(enc c9 l).all AV.one=true:=enc_all one_c9 l
theorem encall_c9 (l:List ByteArray):(enc c9 l).all AV.flat1=true:=enc_all flat_c9 l
theorem flatt_c9 (x:ByteArray):(c9 x).all AV.flat2=true:=by simp only [c9,List.all_cons,List.all_nil,AV.flat2,Bool.and_self]
theorem encflat_c9 {q:Bool}{b:Nat}{h:AHeap}{f:Nat}(l:List ByteArray):frzs (frz q b h (f+1)) (enc c9 l)=some (enc c9 l):=frzs_flat2 (enc_all flatt_c9 l)
theorem enctake_c9 (l:List ByteArray):(enc c9 l).take l.length=enc c9 l:=by simpa only [Nat.mul_one] using enc_take len_c9 l
theorem encids_c9 {b:Nat}{l:List Nat}(m:List ByteArray):AV.idss b (enc c9 m) l=l:=idss_nors (encnors_c9 m)
theorem encren_c9 {b c:Nat}{l:List Nat}(m:List ByteArray):AV.rens b c l (enc c9 m)=some (enc c9 m):=rens_id (encnors_c9 m)
theorem encold_c9 {b:Nat}(m:List ByteArray):AV.olds b (enc c9 m)=true:=olds_nors (encnors_c9 m)
theorem encpart_c9 (l:List ByteArray)(k:Nat):(enc c9 l).take k=enc c9 (l.take k):=by simpa only [Nat.mul_one] using enc_takew len_c9 l k
theorem encdrop_c9 (l:List ByteArray)(k:Nat):(enc c9 l).drop k=enc c9 (l.drop k):=by simpa only [Nat.mul_one] using enc_dropw len_c9 l k
theorem pk_c9 {l:List ByteArray}{j:Int}{x:ByteArray}(h:idx l j=some x):idx l j=some x∧inb j l.length=true∧apart_ ((enc c9 l).drop j.toNat) 0 none=(c9 x)[0]?∧apart_ (enc c9 l) j.toNat none=(c9 x)[0]?:=⟨h,idx_inb h,vp_one len_c9 h,own_one len_c9 h⟩
def S69.cs (p:S69):List AV:=[.i .i64 p.f_Kind,.i .i64 p.f_Gate,.vs (p.f_Q.length) .unk (enc c3 p.f_Q),.i .i64 p.f_Value]
theorem len_S69_cs:∀ x,(S69.cs x).length=4:=fun _=>rfl
theorem nors_S69_cs (x:S69):AV.nors (S69.cs x)=true:=by simp only [S69.cs,AV.nors,AV.nor,Bool.and_self,encnors_Pl_cells,encnors_c3,encnors_c9]
theorem one_S69_cs (x:S69):(S69.cs x).all AV.one=true:=by simp only [S69.cs,List.all_cons,List.all_nil,AV.one,Bool.and_self]
theorem flat_S69_cs (x:S69):(S69.cs x).all AV.flat1=true:=by simp only [S69.cs,List.all_cons,List.all_nil,AV.flat1,Bool.and_self]
theorem encnors_S69_cs (l:List S69):AV.nors (enc S69.cs l)=true:=enc_nors nors_S69_cs l
theorem enclen_S69_cs (l:List S69):(enc S69.cs l).length=l.length*4:=enc_len len_S69_cs l
theorem encone_S69_cs (l:List S69):(enc S69.cs l).all AV.one=true:=enc_all one_S69_cs l
theorem encall_S69_cs (l:List S69):(enc S69.cs l).all AV.flat1=true:=enc_all flat_S69_cs l
theorem encflat_S69_cs {b:Nat}{h:AHeap}{f:Nat}(l:List S69):frzs (frz true b h (f+1)) (enc S69.cs l)=some (enc S69.cs l):=frzs_flat (enc_all flat_S69_cs l)
theorem enctake_S69_cs (l:List S69):(enc S69.cs l).take (l.length*4)=enc S69.cs l:=by simpa only [Nat.mul_one] using enc_take len_S69_cs l
theorem encids_S69_cs {b:Nat}{l:List Nat}(m:List S69):AV.idss b (enc S69.cs m) l=l:=idss_nors (encnors_S69_cs m)
theorem encren_S69_cs {b c:Nat}{l:List Nat}(m:List S69):AV.rens b c l (enc S69.cs m)=some (enc S69.cs m):=rens_id (encnors_S69_cs m)
theorem encold_S69_cs {b:Nat}(m:List S69):AV.olds b (enc S69.cs m)=true:=olds_nors (encnors_S69_cs m)
theorem encpart_S69_cs (l:List S69)(k:Nat):(enc S69.cs l).take (k*4)=enc S69.cs (l.take k):=by simpa only [Nat.mul_one] using enc_takew len_S69_cs l k
theorem encdrop_S69_cs (l:List S69)(k:Nat):(enc S69.cs l).drop (k*4)=enc S69.cs (l.drop k):=by simpa only [Nat.mul_one] using enc_dropw len_S69_cs l k
theorem pk_S69_cs {l:List S69}{j:Int}{x:S69}(h:idx l j=some x):idx l j=some x∧inb j l.length=true∧apart_ ((enc S69.cs l).drop (j.toNat*4)) 0 (some 4)=some (.agg (S69.cs x))∧apart_ ((enc S69.cs l).drop (j.toNat*4)) 0 none=(S69.cs x)[0]?∧apart_ (((enc S69.cs l).drop (j.toNat*4)).drop 1) 0 none=(S69.cs x)[1]?∧apart_ (((enc S69.cs l).drop (j.toNat*4)).drop 2) 0 none=(S69.cs x)[2]?∧apart_ (((enc S69.cs l).drop (j.toNat*4)).drop 3) 0 none=(S69.cs x)[3]?∧apart_ (enc S69.cs l) (j.toNat*4) (some 4)=some (.agg (S69.cs x))∧apart_ (enc S69.cs l) (j.toNat*4) none=(S69.cs x)[0]?∧apart_ (enc S69.cs l) (j.toNat*4+1) none=(S69.cs x)[1]?∧apart_ (enc S69.cs l) (j.toNat*4+2) none=(S69.cs x)[2]?∧apart_ (enc S69.cs l) (j.toNat*4+3) none=(S69.cs x)[3]?:=⟨h,idx_inb h,vp_row len_S69_cs h,vp_cell0 len_S69_cs h (by decide),vp_cell (k:=1) len_S69_cs h (by decide),vp_cell (k:=2) len_S69_cs h (by decide),vp_cell (k:=3) len_S69_cs h (by decide),own_row len_S69_cs h,own_cell0 len_S69_cs h (by decide),own_cell (k:=1) len_S69_cs h (by decide),own_cell (k:=2) len_S69_cs h (by decide),own_cell (k:=3) len_S69_cs h (by decide)⟩
theorem ixo {α:Type}{l:List α}{j:Int}{p:α→Prop}(h:∀ {x},idx l j=some x→p x):(idx l j=none∧inb j l.length=false)∨∃ x,p x:=(Option.eq_none_or_eq_some (idx l j)).elim (fun e=>.inl (pkn e)) (fun ⟨x,e⟩=>.inr ⟨x,h e⟩)
theorem dex {k D:Nat}(h:k≤D):∃ E,D=E+k:=⟨D-k,by omega⟩
def EVE:=PLift.up <| And.intro @oM.eq_1 <| And.intro @oL.eq_1 <| And.intro @oJ.eq_1 <| And.intro @oF.eq_1 <| And.intro @oS.eq_1 <| And.intro @oA.eq_1 <| And.intro @oP.eq_1 <| And.intro @oE.eq_1 <| And.intro @oB.eq_1 <| And.intro @oQ.eq_1 <| And.intro @oN.eq_1 <| And.intro @oT.eq_1 <| And.intro @oU.eq_1 <| And.intro @oG.eq_1 <| And.intro @oI.eq_1 <| And.intro @oC.eq_1 <| And.intro @oX.eq_1 <| And.intro @oY.eq_1 <| And.intro @gf.eq_1 <| And.intro @gt.eq_1 <| And.intro @Pl.cells.eq_1 (And.intro @encnors_Pl_cells (And.intro @enclen_Pl_cells (And.intro @encone_Pl_cells (And.intro @encall_Pl_cells (And.intro @encflat_Pl_cells (And.intro @enctake_Pl_cells (And.intro @encids_Pl_cells (And.intro @encren_Pl_cells (And.intro @encold_Pl_cells (And.intro @encpart_Pl_cells (And.intro @c3.eq_1 (And.intro @encnors_c3 (And.intro @enclen_c3 (And.intro @encone_c3 (And.intro @encall_c3 (And.intro @encflat_c3 (And.intro @enctake_c3 (And.intro @encids_c3 (And.intro @encren_c3 (And.intro @encold_c3 (And.intro @encpart_c3 (And.intro @c9.eq_1 (And.intro @encnors_c9 (And.intro @enclen_c9 (And.intro @encone_c9 (And.intro @encall_c9 (And.intro @encflat_c9 (And.intro @enctake_c9 (And.intro @encids_c9 (And.intro @encren_c9 (And.intro @encold_c9 (And.intro @encpart_c9 (And.intro @S69.cs.eq_1 (And.intro @encnors_S69_cs (And.intro @enclen_S69_cs (And.intro @encone_S69_cs (And.intro @encall_S69_cs (And.intro @encflat_S69_cs (And.intro @enctake_S69_cs (And.intro @encids_S69_cs (And.intro @encren_S69_cs (And.intro @encold_S69_cs @encpart_S69_cs))))))))))))))))))))))))))))))))))))))))))
def EVA:=PLift.up <| And.intro EV0.down <| And.intro EV1.down <| And.intro EV2.down <| And.intro EV3.down <| And.intro EV4.down <| And.intro EV5.down <| And.intro EV6.down <| And.intro EV7.down <| And.intro EVK.down <| And.intro EVN.down <| And.intro EVE.down @kont_ret
theorem epauli_Check (D:Nat)(hD:0≤D)(F:Nat)(a0_N:Int)(a0_X a0_Z:BitVec 64)(a0_Phase:Int)(q:Bool):evW 2 (OV F D) F a97 (some [.agg [.i .i64 a0_N,.i .u64 (U a0_X),.i .u64 (U a0_Z),.i .i64 a0_Phase]]) q G0 =
 some (.i .i64 ((Ppauli_Check a0_N a0_X a0_Z a0_Phase)),none):=by
 rw [evW_some,G0]
 simp only [Ppauli_Check]
 by_cases h1:a0_N<0
 rotate_left
 by_cases h2:a0_N>64
 rotate_left
 by_cases h3:a0_Phase<0
 rotate_left
 by_cases h4:a0_Phase>3
 rotate_left
 by_cases h5:a0_N<64
 by_cases h6:((a0_X ||| a0_Z) >>> a0_N.toNat)=0#64
 replace h6:=eq_true h6
 all_goals simp -implicitDefEqProofs only [*,a97,EVA.down,ne_eq,seval]
theorem vpauli_Check {D F n:Nat}{args:List AV}{h:AHeap}:OV F (D+1) 97 args h n (n+1)=evW 2 (OV F D) F a97 (frzs (frz true 0 (bif AV.nors args then [] else h) 8) args) (AV.nors args) (hglb h 2):=evV_frozen rfl
theorem epauli_right (D:Nat)(hD:1≤D)(F:Nat)(a0_N:Int)(a0_X a0_Z:BitVec 64)(a0_Phase:Int)(q:Bool):evW 2 (OV F D) F a76 (some [.agg [.i .i64 a0_N,.i .u64 (U a0_X),.i .u64 (U a0_Z),.i .i64 a0_Phase]]) q G0 =
 some (.b ((Ppauli_right a0_N a0_X a0_Z a0_Phase)),none):=by
 obtain ⟨D,rfl⟩:=dex hD
 have cpauli_Check0:=epauli_Check (D) (by omega) F
 rw [evW_some,G0]
 skip
 all_goals simp -implicitDefEqProofs only [*,a76,Ppauli_right,vpauli_Check,EVA.down,ne_eq,seval]
theorem vpauli_right {D F n:Nat}{args:List AV}{h:AHeap}:OV F (D+1) 76 args h n (n+1)=evW 2 (OV F D) F a76 (frzs (frz true 0 (bif AV.nors args then [] else h) 8) args) (AV.nors args) (hglb h 2):=evV_frozen rfl
theorem epauli_Hermitian (D:Nat)(hD:2≤D)(F:Nat)(a0_N:Int)(a0_X a0_Z:BitVec 64)(a0_Phase:Int)(q:Bool):evW 2 (OV F D) F a39 (some [.agg [.i .i64 a0_N,.i .u64 (U a0_X),.i .u64 (U a0_Z),.i .i64 a0_Phase]]) q G0 =
 some (.b ((Ppauli_Hermitian a0_N a0_X a0_Z a0_Phase)),none):=by
 obtain ⟨D,rfl⟩:=dex hD
 have cpauli_right0:=epauli_right (D+1) (by omega) F
 rw [evW_some,G0]
 simp only [Ppauli_Hermitian]
 rcases h1:((Ppauli_right a0_N a0_X a0_Z a0_Phase)) with _|_
 all_goals simp -implicitDefEqProofs only [*,a39,vpauli_right,EVA.down,ne_eq,seval]
theorem vpauli_Hermitian {D F n:Nat}{args:List AV}{h:AHeap}:OV F (D+1) 39 args h n (n+1)=evW 2 (OV F D) F a39 (frzs (frz true 0 (bif AV.nors args then [] else h) 8) args) (AV.nors args) (hglb h 2):=evV_frozen rfl
theorem ltb_CheckL0 (D:Nat)(hD:3≤D)(F:Nat)(v0 v1 v2 v4:Int)(v5 v6:List Pl)(v7:Int)(v8 v9:BitVec 64)(v10 v11:Int)(v12 v13:BitVec 64)(v14:Int)(K:AE→AS→Option Res):∀ (f:Nat) (v3:Int) (s:AS),s.keepG 2 [1,33,34,47,48,49] [1]=some ⟨[(1,.lp 1 0),(33,.i .i64 v0),(34,.i .i64 v1),(47,.sl (some (2,0)) 2 (.ex (2))),(48,.i .i64 v2),(49,.i .i64 v3)],[(1,[.i .i64 v4,.vs v5.length .unk (enc Pl.cells v5),.vs v6.length .unk (enc Pl.cells v6)])],[(2,⟨true,false,39,4,[.i .i64 v7,.i .u64 (U v8),.i .u64 (U v9),.i .i64 v10,.i .i64 v11,.i .u64 (U v12),.i .u64 (U v13),.i .i64 v14]⟩),(0,tab64)],3⟩→
 evLoop (evC (OV F D) 2 F a14L0) f s K=match Ptb_CheckL0 v0 v1 v2 v4 v5 v6 v7 v8 v9 v10 v11 v12 v13 v14 f v3 with|none=>none|some (.inl _)=>K .ret ⟨[(2,.i .i64 (140))],[],[(0,tab64)],2⟩|some (.inr _)=>K (.ex 2) ⟨[(1,.lp 1 0),(33,.i .i64 v0),(34,.i .i64 v1)],[(1,[.i .i64 v4,.vs v5.length .unk (enc Pl.cells v5),.vs v6.length .unk (enc Pl.cells v6)])],[(0,tab64)],2⟩:=by
 obtain ⟨D,rfl⟩:=dex hD
 have cpauli_Hermitian0:=epauli_Hermitian (D+2) (by omega) F
 intro f
 induction f with
 |zero=>intro v3 s hs;simp only [evLoop,Ptb_CheckL0]
 |succ f ih=>
 intro v3 s hs
 obtain ⟨k0,hk,hn,he,hr⟩:=@lk_all (OV F (D+3)) 2 F a14L0 f K
 rw [loop_succ,hk,a14L0,runC_cutg,hs]
 clear hs
 simp only [Ptb_CheckL0]
 clear hk
 by_cases h1:v3<v2
 by_cases h2:v3=0
 replace h2:=eq_true h2
 have h3:inb v3 2=true:=by rw [(of_eq_true h2)];decide
 have h4:Int.toNat v3=0:=by rw [(of_eq_true h2)];rfl
 by_cases h5:v7=v4
 replace h5:=eq_true h5
 rcases h6:((Ppauli_Hermitian v7 v8 v9 v10)) with _|_
 rotate_left
 rotate_left
 rotate_left
 by_cases h7:v3=1
 replace h7:=eq_true h7
 have h8:inb v3 2=true:=by rw [(of_eq_true h7)];decide
 have h9:Int.toNat v3=1:=by rw [(of_eq_true h7)];rfl
 by_cases h10:v11=v4
 replace h10:=eq_true h10
 rcases h11:((Ppauli_Hermitian v11 v12 v13 v14)) with _|_
 rotate_left
 rotate_left
 rotate_left
 have h12:inb v3 2=false:=by simp only [inb,Bool.and_eq_false_iff,decide_eq_false_iff_not];omega
 all_goals simp -implicitDefEqProofs only [*,-ih,vpauli_Hermitian,EVA.down,ne_eq,seval]
 all_goals exact ih _ _ (by simp only [*,-ih,vpauli_Hermitian,EVA.down,ne_eq,seval])
theorem ltb_CheckL1 (D:Nat)(hD:3≤D)(F:Nat)(v0 v2:Int)(v3 v4:List Pl)(K:AE→AS→Option Res):∀ (f:Nat) (v1:Int) (s:AS),s.keepG 2 [1,33,34] [1]=some ⟨[(1,.lp 1 0),(33,.i .i64 v0),(34,.i .i64 v1)],[(1,[.i .i64 v2,.vs v3.length .unk (enc Pl.cells v3),.vs v4.length .unk (enc Pl.cells v4)])],[(0,tab64)],2⟩→
 evLoop (evC (OV F D) 2 F a14L1) f s K=match Ptb_CheckL1 F v0 v2 v3 v4 f v1 with|none=>none|some (.inl _)=>K .ret ⟨[(2,.i .i64 (140))],[],[(0,tab64)],2⟩|some (.inr _)=>K (.ex 0) ⟨[(1,.lp 1 0)],[(1,[.i .i64 v2,.vs v3.length .unk (enc Pl.cells v3),.vs v4.length .unk (enc Pl.cells v4)])],[(0,tab64)],2⟩:=by
 obtain ⟨D,rfl⟩:=dex hD
 intro f
 induction f with
 |zero=>intro v1 s hs;simp only [evLoop,Ptb_CheckL1]
 |succ f ih=>
 intro v1 s hs
 obtain ⟨k0,hk,hn,he,hr⟩:=@lk_all (OV F (D+3)) 2 F a14L1 f K
 rw [loop_succ,hk,a14L1,runC_cutg,hs]
 clear hs
 simp only [Ptb_CheckL1]
 clear hk
 by_cases h1:v1<v0
 rcases ixo (@pk_Pl_cells v3 v1) with h2|⟨x1,h2⟩
 rotate_left
 rcases ixo (@pk_Pl_cells v4 v1) with h3|⟨x2,h3⟩
 rotate_left
 simp -implicitDefEqProofs only [*,-ih,runC_loop,EVA.down,ne_eq,seval]
 rw [ltb_CheckL0 (D+3) (by omega) F v0 v1 2 v2 v3 v4 x1.N x1.X x1.Z x1.Ph x2.N x2.X x2.Z x2.Ph _ F 0 _ (by simp only [*,-ih,EVA.down,ne_eq,seval];try rfl)]
 rcases h4:(Ptb_CheckL0 v0 v1 2 v2 v3 v4 x1.N x1.X x1.Z x1.Ph x2.N x2.X x2.Z x2.Ph F 0) with _|(_|_)
 all_goals simp -implicitDefEqProofs only [*,-ih,EVA.down,ne_eq,seval]
 all_goals exact ih _ _ (by simp only [*,-ih,EVA.down,ne_eq,seval])
theorem ebits_OnesCount64 (D:Nat)(hD:0≤D)(F:Nat)(a0:BitVec 64)(q:Bool):evW 2 (OV F D) F a77 (some [.i .u64 (U a0)]) q G0 =
 some (.i .i64 ((Pbits_OnesCount64 a0)),none):=by
 have u2:AV.i .u64 2=.i .u64 (U 2#64):=id rfl
 have u4:AV.i .u64 4=.i .u64 (U 4#64):=id rfl
 have u8:AV.i .u64 8=.i .u64 (U 8#64):=id rfl
 have u16:AV.i .u64 16=.i .u64 (U 16#64):=id rfl
 have u32:AV.i .u64 32=.i .u64 (U 32#64):=id rfl
 have u1085102592571150095:AV.i .u64 1085102592571150095=.i .u64 (U 1085102592571150095#64):=id rfl
 have u3689348814741910323:AV.i .u64 3689348814741910323=.i .u64 (U 3689348814741910323#64):=id rfl
 have u6148914691236517205:AV.i .u64 6148914691236517205=.i .u64 (U 6148914691236517205#64):=id rfl
 rw [evW_some,G0]
 skip
 all_goals simp -implicitDefEqProofs only [*,a77,Pbits_OnesCount64,EVA.down,ne_eq,seval]
theorem vbits_OnesCount64 {D F n:Nat}{args:List AV}{h:AHeap}:OV F (D+1) 77 args h n (n+1)=evW 2 (OV F D) F a77 (frzs (frz true 0 (bif AV.nors args then [] else h) 8) args) (AV.nors args) (hglb h 2):=evV_frozen rfl
theorem etb_commute (D:Nat)(hD:1≤D)(F:Nat)(a0_N:Int)(a0_X a0_Z:BitVec 64)(a0_Phase a1_N:Int)(a1_X a1_Z:BitVec 64)(a1_Phase:Int)(q:Bool):evW 2 (OV F D) F a40 (some [.agg [.i .i64 a0_N,.i .u64 (U a0_X),.i .u64 (U a0_Z),.i .i64 a0_Phase],.agg [.i .i64 a1_N,.i .u64 (U a1_X),.i .u64 (U a1_Z),.i .i64 a1_Phase]]) q G0 =
 some (.b ((Ptb_commute a0_N a0_X a0_Z a0_Phase a1_N a1_X a1_Z a1_Phase)),none):=by
 obtain ⟨D,rfl⟩:=dex hD
 have cbits_OnesCount640:=ebits_OnesCount64 (D) (by omega) F
 rw [evW_some,G0]
 skip
 all_goals simp -implicitDefEqProofs only [*,a40,Ptb_commute,vbits_OnesCount64,EVA.down,ne_eq,seval]
theorem vtb_commute {D F n:Nat}{args:List AV}{h:AHeap}:OV F (D+1) 40 args h n (n+1)=evW 2 (OV F D) F a40 (frzs (frz true 0 (bif AV.nors args then [] else h) 8) args) (AV.nors args) (hglb h 2):=evV_frozen rfl
theorem ltb_CheckL2 (D:Nat)(hD:2≤D)(F:Nat)(v0 v1 v2 v3 v5:Int)(v6 v7:List Pl)(K:AE→AS→Option Res):∀ (f:Nat) (v4:Int) (s:AS),s.keepG 2 [1,6,66,67,71,72] [1]=some ⟨[(1,.lp 1 0),(6,.i .i64 v0),(66,.i .i64 v1),(67,.i .i64 v2),(71,.i .i64 v3),(72,.i .i64 v4)],[(1,[.i .i64 v5,.vs v6.length .unk (enc Pl.cells v6),.vs v7.length .unk (enc Pl.cells v7)])],[(0,tab64)],2⟩→
 evLoop (evC (OV F D) 2 F a14L2) f s K=match Ptb_CheckL2 v0 v1 v2 v3 v5 v6 v7 f v4 with|none=>none|some (.inl _)=>K .ret ⟨[(2,.i .i64 (140))],[],[(0,tab64)],2⟩|some (.inr _)=>K (.ex 6) ⟨[(1,.lp 1 0),(66,.i .i64 v1),(67,.i .i64 v2)],[(1,[.i .i64 v5,.vs v6.length .unk (enc Pl.cells v6),.vs v7.length .unk (enc Pl.cells v7)])],[(0,tab64)],2⟩:=by
 obtain ⟨D,rfl⟩:=dex hD
 have ctb_commute0:=etb_commute (D+1) (by omega) F
 intro f
 induction f with
 |zero=>intro v4 s hs;simp only [evLoop,Ptb_CheckL2]
 |succ f ih=>
 intro v4 s hs
 obtain ⟨k0,hk,hn,he,hr⟩:=@lk_all (OV F (D+2)) 2 F a14L2 f K
 rw [loop_succ,hk,a14L2,runC_cutg,hs]
 clear hs
 simp only [Ptb_CheckL2]
 clear hk
 by_cases h1:v4<v3
 rcases ixo (@pk_Pl_cells v6 v0) with h2|⟨x1,h2⟩
 rotate_left
 rcases ixo (@pk_Pl_cells v6 v4) with h3|⟨x2,h3⟩
 rotate_left
 rcases h4:((Ptb_commute x1.N x1.X x1.Z x1.Ph x2.N x2.X x2.Z x2.Ph)) with _|_
 rotate_left
 rcases ixo (@pk_Pl_cells v7 v0) with h5|⟨x3,h5⟩
 rotate_left
 rcases ixo (@pk_Pl_cells v7 v4) with h6|⟨x4,h6⟩
 rotate_left
 rcases h7:((Ptb_commute x3.N x3.X x3.Z x3.Ph x4.N x4.X x4.Z x4.Ph)) with _|_
 rotate_left
 by_cases h8:v0=v4
 replace h8:=eq_true h8
 rcases h9:((Ptb_commute x3.N x3.X x3.Z x3.Ph x2.N x2.X x2.Z x2.Ph)) with _|_
 rotate_left
 rotate_left
 rcases h10:((Ptb_commute x3.N x3.X x3.Z x3.Ph x2.N x2.X x2.Z x2.Ph)) with _|_
 all_goals simp -implicitDefEqProofs only [*,-ih,vtb_commute,EVA.down,ne_eq,seval]
 all_goals exact ih _ _ (by simp only [*,-ih,vtb_commute,EVA.down,ne_eq,seval])
theorem ltb_CheckL3 (D:Nat)(hD:2≤D)(F:Nat)(v0 v2:Int)(v3 v4:List Pl)(K:AE→AS→Option Res):∀ (f:Nat) (v1:Int) (s:AS),s.keepG 2 [1,66,67] [1]=some ⟨[(1,.lp 1 0),(66,.i .i64 v0),(67,.i .i64 v1)],[(1,[.i .i64 v2,.vs v3.length .unk (enc Pl.cells v3),.vs v4.length .unk (enc Pl.cells v4)])],[(0,tab64)],2⟩→
 evLoop (evC (OV F D) 2 F a14L3) f s K=match Ptb_CheckL3 F v0 v2 v3 v4 f v1 with|none=>none|some (.inl _)=>K .ret ⟨[(2,.i .i64 (140))],[],[(0,tab64)],2⟩|some (.inr _)=>K (.ex 4) ⟨[],[],[(0,tab64)],2⟩:=by
 obtain ⟨D,rfl⟩:=dex hD
 intro f
 induction f with
 |zero=>intro v1 s hs;simp only [evLoop,Ptb_CheckL3]
 |succ f ih=>
 intro v1 s hs
 obtain ⟨k0,hk,hn,he,hr⟩:=@lk_all (OV F (D+2)) 2 F a14L3 f K
 rw [loop_succ,hk,a14L3,runC_cutg,hs]
 clear hs
 simp only [Ptb_CheckL3]
 clear hk
 by_cases h1:v1<v0
 simp -implicitDefEqProofs only [*,-ih,runC_loop,EVA.down,ne_eq,seval]
 rw [ltb_CheckL2 (D+2) (by omega) F v1 v0 v1 v2 v2 v3 v4 _ F 0 _ (by simp only [*,-ih,EVA.down,ne_eq,seval];try rfl)]
 rcases h2:(Ptb_CheckL2 v1 v0 v1 v2 v2 v3 v4 F 0) with _|(_|_)
 all_goals simp -implicitDefEqProofs only [*,-ih,EVA.down,ne_eq,seval]
 all_goals exact ih _ _ (by simp only [*,-ih,EVA.down,ne_eq,seval])
theorem etb_Check (D:Nat)(hD:3≤D)(F:Nat)(a0_N:Int)(a0_Stab a0_Destab:List Pl)(q:Bool):evW 2 (OV F D) F a14 (some [.agg [.i .i64 a0_N,.vs a0_Stab.length .unk (enc Pl.cells a0_Stab),.vs a0_Destab.length .unk (enc Pl.cells a0_Destab)]]) q G0 =
 match Ptb_Check F a0_N a0_Stab a0_Destab with|none=>none|some r0=>some (.i .i64 r0,none):=by
 obtain ⟨D,rfl⟩:=dex hD
 rw [evW_some,G0]
 simp only [Ptb_Check]
 by_cases h1:a0_N<0
 rotate_left
 by_cases h2:a0_N>64
 rotate_left
 by_cases h3:(a0_Stab.length:Int)=a0_N
 replace h3:=eq_true h3
 by_cases h4:(a0_Destab.length:Int)=a0_N
 replace h4:=eq_true h4
 simp -implicitDefEqProofs only [*,a14,runC_loop,EVA.down,ne_eq,seval]
 rw [ltb_CheckL1 (D+3) (by omega) F a0_N a0_N a0_Stab a0_Destab _ F 0 _ (by simp only [*,a14,EVA.down,ne_eq,seval];try rfl)]
 rcases h5:(Ptb_CheckL1 F a0_N a0_N a0_Stab a0_Destab F 0) with _|(_|_)
 rotate_left
 rotate_left
 simp -implicitDefEqProofs only [*,a14,runC_loop,EVA.down,ne_eq,seval]
 rw [ltb_CheckL3 (D+3) (by omega) F a0_N a0_N a0_Stab a0_Destab _ F 0 _ (by simp only [*,a14,EVA.down,ne_eq,seval];try rfl)]
 rcases h6:(Ptb_CheckL3 F a0_N a0_N a0_Stab a0_Destab F 0) with _|(_|_)
 all_goals simp -implicitDefEqProofs only [*,a14,EVA.down,ne_eq,seval]
theorem vtb_Check {D F n:Nat}{args:List AV}{h:AHeap}:OV F (D+1) 14 args h n (n+1)=evW 2 (OV F D) F a14 (frzs (frz true 0 (bif AV.nors args then [] else h) 8) args) (AV.nors args) (hglb h 2):=evV_frozen rfl
theorem egate_table (D:Nat)(hD:0≤D)(F:Nat)  (q:Bool):evW 2 (OV F D) F a84 (some []) q G0 =
 match Pgate_table with|(r0,r1,r2,r3,r4,r5,r6,r7,r8,r9,r10,r11,r12,r13,r14,r15,r16,r17,r18,r19,r20,r21,r22,r23,r24,r25,r26,r27,r28,r29,r30,r31,r32,r33,r34,r35,r36,r37,r38,r39,r40,r41,r42,r43,r44,r45,r46,r47,r48,r49,r50,r51,r52,r53,r54,r55,r56,r57,r58,r59,r60,r61,r62,r63,r64,r65,r66,r67,r68,r69,r70,r71,r72,r73,r74,r75,r76,r77,r78,r79,r80,r81,r82,r83)=>some (.agg [.s r0,.i .i64 r1,.i .i64 r2,.i .i64 r3,.s r4,.i .i64 r5,.i .i64 r6,.i .i64 r7,.s r8,.i .i64 r9,.i .i64 r10,.i .i64 r11,.s r12,.i .i64 r13,.i .i64 r14,.i .i64 r15,.s r16,.i .i64 r17,.i .i64 r18,.i .i64 r19,.s r20,.i .i64 r21,.i .i64 r22,.i .i64 r23,.s r24,.i .i64 r25,.i .i64 r26,.i .i64 r27,.s r28,.i .i64 r29,.i .i64 r30,.i .i64 r31,.s r32,.i .i64 r33,.i .i64 r34,.i .i64 r35,.s r36,.i .i64 r37,.i .i64 r38,.i .i64 r39,.s r40,.i .i64 r41,.i .i64 r42,.i .i64 r43,.s r44,.i .i64 r45,.i .i64 r46,.i .i64 r47,.s r48,.i .i64 r49,.i .i64 r50,.i .i64 r51,.s r52,.i .i64 r53,.i .i64 r54,.i .i64 r55,.s r56,.i .i64 r57,.i .i64 r58,.i .i64 r59,.s r60,.i .i64 r61,.i .i64 r62,.i .i64 r63,.s r64,.i .i64 r65,.i .i64 r66,.i .i64 r67,.s r68,.i .i64 r69,.i .i64 r70,.i .i64 r71,.s r72,.i .i64 r73,.i .i64 r74,.i .i64 r75,.s r76,.i .i64 r77,.i .i64 r78,.i .i64 r79,.s r80,.i .i64 r81,.i .i64 r82,.i .i64 r83],none):=by
 rw [evW_some,G0]
 skip
 all_goals simp -implicitDefEqProofs only [*,a84,Pgate_table,EVA.down,ne_eq,seval]
theorem vgate_table {D F n:Nat}{args:List AV}{h:AHeap}:OV F (D+1) 84 args h n (n+1)=evW 2 (OV F D) F a84 (frzs (frz true 0 (bif AV.nors args then [] else h) 8) args) (AV.nors args) (hglb h 2):=evV_frozen rfl
theorem egate_of (D:Nat)(hD:1≤D)(F:Nat)(a0:Int)(q:Bool):evW 2 (OV F D) F a52 (some [.i .i64 a0]) q G0 =
 match Pgate_of a0 with|none=>none|some (r0,r1,r2,r3)=>some (.agg [.s r0,.i .i64 r1,.i .i64 r2,.i .i64 r3],none):=by
 obtain ⟨D,rfl⟩:=dex hD
 have cgate_table0:=egate_table (D) (by omega) F
 rw [evW_some,G0]
 simp only [Pgate_of]
 by_cases h1:a0<1
 rotate_left
 by_cases h2:a0>20
 rotate_left
 rcases h3:(Pgate_table) with ⟨r1,r2,r3,r4,r5,r6,r7,r8,r9,r10,r11,r12,r13,r14,r15,r16,r17,r18,r19,r20,r21,r22,r23,r24,r25,r26,r27,r28,r29,r30,r31,r32,r33,r34,r35,r36,r37,r38,r39,r40,r41,r42,r43,r44,r45,r46,r47,r48,r49,r50,r51,r52,r53,r54,r55,r56,r57,r58,r59,r60,r61,r62,r63,r64,r65,r66,r67,r68,r69,r70,r71,r72,r73,r74,r75,r76,r77,r78,r79,r80,r81,r82,r83,r84⟩
 by_cases h4:a0=0
 replace h4:=eq_true h4
 have h5:inb a0 21=true:=by rw [(of_eq_true h4)];decide
 have h6:Int.toNat a0=0:=by rw [(of_eq_true h4)];rfl
 rotate_left
 by_cases h7:a0=1
 replace h7:=eq_true h7
 have h8:inb a0 21=true:=by rw [(of_eq_true h7)];decide
 have h9:Int.toNat a0=1:=by rw [(of_eq_true h7)];rfl
 rotate_left
 by_cases h10:a0=2
 replace h10:=eq_true h10
 have h11:inb a0 21=true:=by rw [(of_eq_true h10)];decide
 have h12:Int.toNat a0=2:=by rw [(of_eq_true h10)];rfl
 rotate_left
 by_cases h13:a0=3
 replace h13:=eq_true h13
 have h14:inb a0 21=true:=by rw [(of_eq_true h13)];decide
 have h15:Int.toNat a0=3:=by rw [(of_eq_true h13)];rfl
 rotate_left
 by_cases h16:a0=4
 replace h16:=eq_true h16
 have h17:inb a0 21=true:=by rw [(of_eq_true h16)];decide
 have h18:Int.toNat a0=4:=by rw [(of_eq_true h16)];rfl
 rotate_left
 by_cases h19:a0=5
 replace h19:=eq_true h19
 have h20:inb a0 21=true:=by rw [(of_eq_true h19)];decide
 have h21:Int.toNat a0=5:=by rw [(of_eq_true h19)];rfl
 rotate_left
 by_cases h22:a0=6
 replace h22:=eq_true h22
 have h23:inb a0 21=true:=by rw [(of_eq_true h22)];decide
 have h24:Int.toNat a0=6:=by rw [(of_eq_true h22)];rfl
 rotate_left
 by_cases h25:a0=7
 replace h25:=eq_true h25
 have h26:inb a0 21=true:=by rw [(of_eq_true h25)];decide
 have h27:Int.toNat a0=7:=by rw [(of_eq_true h25)];rfl
 rotate_left
 by_cases h28:a0=8
 replace h28:=eq_true h28
 have h29:inb a0 21=true:=by rw [(of_eq_true h28)];decide
 have h30:Int.toNat a0=8:=by rw [(of_eq_true h28)];rfl
 rotate_left
 by_cases h31:a0=9
 replace h31:=eq_true h31
 have h32:inb a0 21=true:=by rw [(of_eq_true h31)];decide
 have h33:Int.toNat a0=9:=by rw [(of_eq_true h31)];rfl
 rotate_left
 by_cases h34:a0=10
 replace h34:=eq_true h34
 have h35:inb a0 21=true:=by rw [(of_eq_true h34)];decide
 have h36:Int.toNat a0=10:=by rw [(of_eq_true h34)];rfl
 rotate_left
 by_cases h37:a0=11
 replace h37:=eq_true h37
 have h38:inb a0 21=true:=by rw [(of_eq_true h37)];decide
 have h39:Int.toNat a0=11:=by rw [(of_eq_true h37)];rfl
 rotate_left
 by_cases h40:a0=12
 replace h40:=eq_true h40
 have h41:inb a0 21=true:=by rw [(of_eq_true h40)];decide
 have h42:Int.toNat a0=12:=by rw [(of_eq_true h40)];rfl
 rotate_left
 by_cases h43:a0=13
 replace h43:=eq_true h43
 have h44:inb a0 21=true:=by rw [(of_eq_true h43)];decide
 have h45:Int.toNat a0=13:=by rw [(of_eq_true h43)];rfl
 rotate_left
 by_cases h46:a0=14
 replace h46:=eq_true h46
 have h47:inb a0 21=true:=by rw [(of_eq_true h46)];decide
 have h48:Int.toNat a0=14:=by rw [(of_eq_true h46)];rfl
 rotate_left
 by_cases h49:a0=15
 replace h49:=eq_true h49
 have h50:inb a0 21=true:=by rw [(of_eq_true h49)];decide
 have h51:Int.toNat a0=15:=by rw [(of_eq_true h49)];rfl
 rotate_left
 by_cases h52:a0=16
 replace h52:=eq_true h52
 have h53:inb a0 21=true:=by rw [(of_eq_true h52)];decide
 have h54:Int.toNat a0=16:=by rw [(of_eq_true h52)];rfl
 rotate_left
 by_cases h55:a0=17
 replace h55:=eq_true h55
 have h56:inb a0 21=true:=by rw [(of_eq_true h55)];decide
 have h57:Int.toNat a0=17:=by rw [(of_eq_true h55)];rfl
 rotate_left
 by_cases h58:a0=18
 replace h58:=eq_true h58
 have h59:inb a0 21=true:=by rw [(of_eq_true h58)];decide
 have h60:Int.toNat a0=18:=by rw [(of_eq_true h58)];rfl
 rotate_left
 by_cases h61:a0=19
 replace h61:=eq_true h61
 have h62:inb a0 21=true:=by rw [(of_eq_true h61)];decide
 have h63:Int.toNat a0=19:=by rw [(of_eq_true h61)];rfl
 rotate_left
 by_cases h64:a0=20
 replace h64:=eq_true h64
 have h65:inb a0 21=true:=by rw [(of_eq_true h64)];decide
 have h66:Int.toNat a0=20:=by rw [(of_eq_true h64)];rfl
 rotate_left
 have h67:inb a0 21=false:=by simp only [inb,Bool.and_eq_false_iff,decide_eq_false_iff_not];omega
 all_goals simp -implicitDefEqProofs only [*,a52,vgate_table,EVA.down,ne_eq,seval]
theorem vgate_of {D F n:Nat}{args:List AV}{h:AHeap}:OV F (D+1) 52 args h n (n+1)=evW 2 (OV F D) F a52 (frzs (frz true 0 (bif AV.nors args then [] else h) 8) args) (AV.nors args) (hglb h 2):=evV_frozen rfl
theorem egate_Arity (D:Nat)(hD:2≤D)(F:Nat)(a0:Int)(q:Bool):evW 2 (OV F D) F a80 (some [.i .i64 a0]) q G0 =
 match Pgate_Arity a0 with|none=>none|some r0=>some (.i .i64 r0,none):=by
 obtain ⟨D,rfl⟩:=dex hD
 have cgate_of0:=egate_of (D+1) (by omega) F
 rw [evW_some,G0]
 simp only [Pgate_Arity]
 rcases h1:(Pgate_of a0) with _|⟨r1,r2,r3,r4⟩
 all_goals simp -implicitDefEqProofs only [*,a80,vgate_of,EVA.down,ne_eq,seval]
theorem vgate_Arity {D F n:Nat}{args:List AV}{h:AHeap}:OV F (D+1) 80 args h n (n+1)=evW 2 (OV F D) F a80 (frzs (frz true 0 (bif AV.nors args then [] else h) 8) args) (AV.nors args) (hglb h 2):=evV_frozen rfl
theorem lslices_Index_intL0 (D:Nat)(hD:0≤D)(F:Nat)(v0:List Int)(v1 v2:Int)(K:AE→AS→Option Res):∀ (f:Nat) (v3:Int) (s:AS),s.keep [0,1,7,8] []=some ⟨[(0,.vs v0.length .unk (enc c3 v0)),(1,.i .i64 v1),(7,.i .i64 v2),(8,.i .i64 v3)],[],[(0,tab64)],2⟩→
 evLoop (evC (OV F D) 2 F a98L0) f s K=match Pslices_Index_intL0 v0 v1 v2 f v3 with|none=>none|some (.inl y0)=>K .ret ⟨[(4,.i .i64 y0)],[],[(0,tab64)],2⟩|some (.inr _)=>K (.ex 0) ⟨[],[],[(0,tab64)],2⟩:=by
 intro f
 induction f with
 |zero=>intro v3 s hs;simp only [evLoop,Pslices_Index_intL0]
 |succ f ih=>
 intro v3 s hs
 obtain ⟨k0,hk,hn,he,hr⟩:=@lk_all (OV F (D)) 2 F a98L0 f K
 rw [loop_succ,hk,a98L0,runC_cut,hs]
 clear hs
 simp only [Pslices_Index_intL0]
 clear hk
 by_cases h1:v3<v2
 rcases ixo (@pk_c3 v0 v3) with h2|⟨x1,h2⟩
 rotate_left
 by_cases h3:v1=x1
 replace h3:=eq_true h3
 all_goals simp -implicitDefEqProofs only [*,-ih,EVA.down,ne_eq,seval]
 all_goals exact ih _ _ (by simp only [*,-ih,EVA.down,ne_eq,seval])
theorem eslices_Index_int (D:Nat)(hD:0≤D)(F:Nat)(a0:List Int)(a1:Int)(q:Bool):evW 2 (OV F D) F a98 (some [.vs a0.length .unk (enc c3 a0),.i .i64 a1]) q G0 =
 match Pslices_Index_int F a0 a1 with|none=>none|some r0=>some (.i .i64 r0,none):=by
 rw [evW_some,G0]
 simp only [Pslices_Index_int]
 simp -implicitDefEqProofs only [*,a98,runC_loop,EVA.down,ne_eq,seval]
 rw [lslices_Index_intL0 (D) (by omega) F a0 a1 (a0.length:Int) _ F 0 _ (by simp only [*,a98,EVA.down,ne_eq,seval];try rfl)]
 rcases h1:(Pslices_Index_intL0 a0 a1 (a0.length:Int) F 0) with _|(y1|_)
 all_goals simp -implicitDefEqProofs only [*,a98,EVA.down,ne_eq,seval]
theorem vslices_Index_int {D F n:Nat}{args:List AV}{h:AHeap}:OV F (D+1) 98 args h n (n+1)=evW 2 (OV F D) F a98 (frzs (frz true 0 (bif AV.nors args then [] else h) 8) args) (AV.nors args) (hglb h 2):=evV_frozen rfl
theorem eslices_Contains_int (D:Nat)(hD:1≤D)(F:Nat)(a0:List Int)(a1:Int)(q:Bool):evW 2 (OV F D) F a81 (some [.vs a0.length .unk (enc c3 a0),.i .i64 a1]) q G0 =
 match Pslices_Contains_int F a0 a1 with|none=>none|some r0=>some (.b r0,none):=by
 obtain ⟨D,rfl⟩:=dex hD
 have cslices_Index_int0:=eslices_Index_int (D) (by omega) F
 rw [evW_some,G0]
 simp only [Pslices_Contains_int]
 rcases h1:(Pslices_Index_int F a0 a1) with _|r1
 all_goals simp -implicitDefEqProofs only [*,a81,vslices_Index_int,EVA.down,ne_eq,seval]
theorem vslices_Contains_int {D F n:Nat}{args:List AV}{h:AHeap}:OV F (D+1) 81 args h n (n+1)=evW 2 (OV F D) F a81 (frzs (frz true 0 (bif AV.nors args then [] else h) 8) args) (AV.nors args) (hglb h 2):=evV_frozen rfl
theorem lgate_CheckL0 (D:Nat)(hD:2≤D)(F:Nat)(v0:List Int)(v1:Int)(v2:List Int)(v3:Int)(K:AE→AS→Option Res):∀ (f:Nat) (v4:Int) (s:AS),s.keep [1,2,17,18,19] []=some ⟨[(1,.vs v0.length .unk (enc c3 v0)),(2,.i .i64 v1),(17,.vs v2.length .unk (enc c3 v2)),(18,.i .i64 v3),(19,.i .i64 v4)],[],[(0,tab64)],2⟩→
 evLoop (evC (OV F D) 2 F a47L0) f s K=match Pgate_CheckL0 F v0 v1 v2 v3 f v4 with|none=>none|some (.inl _)=>K .ret ⟨[(6,.i .i64 (61))],[],[(0,tab64)],2⟩|some (.inr _)=>K (.ex 0) ⟨[],[],[(0,tab64)],2⟩:=by
 obtain ⟨D,rfl⟩:=dex hD
 have cslices_Contains_int0:=eslices_Contains_int (D+1) (by omega) F
 intro f
 induction f with
 |zero=>intro v4 s hs;simp only [evLoop,Pgate_CheckL0]
 |succ f ih=>
 intro v4 s hs
 obtain ⟨k0,hk,hn,he,hr⟩:=@lk_all (OV F (D+2)) 2 F a47L0 f K
 rw [loop_succ,hk,a47L0,runC_cut,hs]
 clear hs
 simp only [Pgate_CheckL0]
 clear hk
 by_cases h1:v4<v3
 rcases ixo (@pk_c3 v2 v4) with h2|⟨x1,h2⟩
 rotate_left
 by_cases h3:x1<0
 rotate_left
 by_cases h4:x1≥v1
 rotate_left
 by_cases h5:0≤v4∧v4≤(v0.length:Int)
 have h6:∀ cap x,AV.vs v4.toNat cap x=AV.vs (v0.take v4.toNat).length cap x:=by intro cap x;congr 1;simp only [List.length_take,List.length_drop];omega
 rcases h7:(Pslices_Contains_int F (v0.take v4.toNat) x1) with _|r2
 rotate_left
 rcases h8:(r2) with _|_
 all_goals simp -implicitDefEqProofs only [*,-ih,vslices_Contains_int,EVA.down,ne_eq,seval]
 all_goals exact ih _ _ (by simp only [*,-ih,vslices_Contains_int,EVA.down,ne_eq,seval])
theorem egate_Check (D:Nat)(hD:3≤D)(F:Nat)(a0:Int)(a1:List Int)(a2:Int)(q:Bool):evW 2 (OV F D) F a47 (some [.i .i64 a0,.vs a1.length .unk (enc c3 a1),.i .i64 a2]) q G0 =
 match Pgate_Check F a0 a1 a2 with|none=>none|some r0=>some (.i .i64 r0,none):=by
 obtain ⟨D,rfl⟩:=dex hD
 have cgate_Arity0:=egate_Arity (D+2) (by omega) F
 rw [evW_some,G0]
 simp only [Pgate_Check]
 rcases h1:(Pgate_Arity a0) with _|r1
 rotate_left
 by_cases h2:r1=0
 replace h2:=eq_true h2
 rotate_left
 by_cases h3:(a1.length:Int)=r1
 replace h3:=eq_true h3
 simp -implicitDefEqProofs only [*,a47,vgate_Arity,runC_loop,EVA.down,ne_eq,seval]
 rw [lgate_CheckL0 (D+3) (by omega) F a1 a2 a1 (a1.length:Int) _ F 0 _ (by simp only [*,a47,vgate_Arity,EVA.down,ne_eq,seval];try rfl)]
 rcases h4:(Pgate_CheckL0 F a1 a2 a1 (a1.length:Int) F 0) with _|(_|_)
 all_goals simp -implicitDefEqProofs only [*,a47,vgate_Arity,EVA.down,ne_eq,seval]
theorem vgate_Check {D F n:Nat}{args:List AV}{h:AHeap}:OV F (D+1) 47 args h n (n+1)=evW 2 (OV F D) F a47 (frzs (frz true 0 (bif AV.nors args then [] else h) 8) args) (AV.nors args) (hglb h 2):=evV_frozen rfl
theorem egate_Clifford (D:Nat)(hD:0≤D)(F:Nat)(a0:Int)(q:Bool):evW 2 (OV F D) F a48 (some [.i .i64 a0]) q G0 =
 some (.b ((Pgate_Clifford a0)),none):=by
 rw [evW_some,G0]
 simp only [Pgate_Clifford]
 by_cases h1:a0≥1
 all_goals simp -implicitDefEqProofs only [*,a48,EVA.down,ne_eq,seval]
theorem vgate_Clifford {D F n:Nat}{args:List AV}{h:AHeap}:OV F (D+1) 48 args h n (n+1)=evW 2 (OV F D) F a48 (frzs (frz true 0 (bif AV.nors args then [] else h) 8) args) (AV.nors args) (hglb h 2):=evV_frozen rfl
theorem etb_copied (D:Nat)(hD:0≤D)(F:Nat)(a0_N:Int)(a0_Stab a0_Destab:List Pl)(q:Bool):evW 2 (OV F D) F a49 (some [.agg [.i .i64 a0_N,.vs a0_Stab.length .unk (enc Pl.cells a0_Stab),.vs a0_Destab.length .unk (enc Pl.cells a0_Destab)]]) q G0 =
 match Ptb_copied a0_N a0_Stab a0_Destab with|none=>none|some (r0,r1,r2)=>some (.agg [.i .i64 r0,.vs r1.length .unk (enc Pl.cells r1),.vs r2.length .unk (enc Pl.cells r2)],none):=by
 rw [evW_some,G0]
 simp only [Ptb_copied]
 by_cases h1:a0_Stab.length*32≤140737488355328
 by_cases h2:a0_Stab=[]
 replace h2:=eq_true h2
 by_cases h3:a0_Destab.length*32≤140737488355328
 by_cases h4:a0_Destab=[]
 replace h4:=eq_true h4
 rotate_left
 rotate_left
 rotate_left
 by_cases h5:a0_Destab.length*32≤140737488355328
 by_cases h6:a0_Destab=[]
 replace h6:=eq_true h6
 all_goals simp -implicitDefEqProofs only [*,a49,k54,EVA.down,ne_eq,seval]
theorem vtb_copied {D F n:Nat}{args:List AV}{h:AHeap}:OV F (D+1) 49 args h n (n+1)=evW 2 (OV F D) F a49 (frzs (frz true 0 (bif AV.nors args then [] else h) 8) args) (AV.nors args) (hglb h 2):=evV_frozen rfl
theorem etb_copiedo (D:Nat)(hD:0≤D)(F:Nat)(a0_N:Int)(a0_Stab a0_Destab:List Pl)(n:Nat):evX 2 (OV F D) F a49 (some [.agg [.i .i64 a0_N,.vs a0_Stab.length .unk (enc Pl.cells a0_Stab),.vs a0_Destab.length .unk (enc Pl.cells a0_Destab)]]) true G0 n =
 match Ptb_copied a0_N a0_Stab a0_Destab with|none=>none|some (r0,r1,r2)=>(match ownS Pl.cells 39 4 (.vs 0 .unk []) r1 n with|(w0,g0,n0)=>(match ownS Pl.cells 39 4 (.vs 0 .unk []) r2 n0 with|(w1,g1,n1)=>some (.agg [.i .i64 r0,w0,w1],some (g0++g1,n1)))):=by
 rw [evX_some,G0]
 simp only [Ptb_copied]
 by_cases h1:a0_Stab.length*32≤140737488355328
 by_cases h2:a0_Stab=[]
 replace h2:=eq_true h2
 by_cases h3:a0_Destab.length*32≤140737488355328
 by_cases h4:a0_Destab=[]
 replace h4:=eq_true h4
 rotate_left
 rotate_left
 rotate_left
 by_cases h5:a0_Destab.length*32≤140737488355328
 by_cases h6:a0_Destab=[]
 replace h6:=eq_true h6
 all_goals simp -implicitDefEqProofs only [*,a49,k54,EVA.down,ne_eq,seval]
theorem vtb_copiedo {D F n:Nat}{args:List AV}{h:AHeap}:OV F (D+1) 49 args h n n=evX 2 (OV F D) F a49 (frzs (frz true 0 (bif AV.nors args then [] else h) 8) args) (AV.nors args) (hglb h 2) n:=evV_own rfl
theorem lpauli_ThroughL0 (D:Nat)(hD:0≤D)(F:Nat)(v0:Int)(v1 v2:List Int)(v3 v5:Int)(v6 v7:BitVec 64)(v8 v9:Int)(v10 v11:BitVec 64)(v12 v13 v16:Int)(K:AE→AS→Option Res):∀ (f:Nat) (v4:Int) (v14 v15:BitVec 64) (s:AS),s.keep [1,2,3,6,8,33,34,35] [3,6,8]=some ⟨[(1,.i .i64 v0),(2,.vs v1.length .unk (enc c3 v1)),(3,.lp 3 0),(6,.lp 6 0),(8,.lp 8 0),(33,.vs v2.length .unk (enc c3 v2)),(34,.i .i64 v3),(35,.i .i64 v4)],[(3,[.i .i64 v5,.i .u64 (U v6),.i .u64 (U v7),.i .i64 v8]),(6,[.i .i64 v9,.i .u64 (U v10),.i .u64 (U v11),.i .i64 v12]),(8,[.i .i64 v13,.i .u64 (U v14),.i .u64 (U v15),.i .i64 v16])],[(0,tab64)],2⟩→
 evLoop (evC (OV F D) 2 F a51L0) f s K=match Ppauli_ThroughL0 v0 v1 v2 v3 v5 v6 v7 v8 v9 v10 v11 v12 v13 v16 f v4 v14 v15 with|none=>none|some (y0,y1)=>K (.ex 0) ⟨[(1,.i .i64 v0),(2,.vs v1.length .unk (enc c3 v1)),(3,.lp 3 0),(6,.lp 6 0),(8,.lp 8 0)],[(3,[.i .i64 v5,.i .u64 (U v6),.i .u64 (U v7),.i .i64 v8]),(6,[.i .i64 v9,.i .u64 (U v10),.i .u64 (U v11),.i .i64 v12]),(8,[.i .i64 v13,.i .u64 (U y0),.i .u64 (U y1),.i .i64 v16])],[(0,tab64)],2⟩:=by
 intro f
 induction f with
 |zero=>intro v4 v14 v15 s hs;simp only [evLoop,Ppauli_ThroughL0]
 |succ f ih=>
 intro v4 v14 v15 s hs
 obtain ⟨k0,hk,hn,he,hr⟩:=@lk_all (OV F (D)) 2 F a51L0 f K
 rw [loop_succ,hk,a51L0,runC_cut,hs]
 clear hs
 simp only [Ppauli_ThroughL0]
 clear hk
 by_cases h1:v4<v3
 rcases ixo (@pk_c3 v2 v4) with h2|⟨x1,h2⟩
 rotate_left
 by_cases h3:x1<0
 all_goals simp -implicitDefEqProofs only [*,-ih,EVA.down,ne_eq,seval]
 all_goals exact ih _ _ _ _ (by simp only [*,-ih,EVA.down,ne_eq,seval])
theorem epauli_images (D:Nat)(hD:0≤D)(F:Nat)(a0:Int)(q:Bool):evW 2 (OV F D) F a82 (some [.i .i64 a0]) q G0 =
 match Ppauli_images a0 with|none=>none|some r0=>some (.vs r0.length .unk (enc c9 r0),none):=by
 rw [evW_some,G0]
 simp only [Ppauli_images]
 by_cases h1:a0=0
 replace h1:=eq_true h1
 have h2:inb a0 18=true:=by rw [(of_eq_true h1)];decide
 have h3:Int.toNat a0=0:=by rw [(of_eq_true h1)];rfl
 rotate_left
 by_cases h4:a0=1
 replace h4:=eq_true h4
 have h5:inb a0 18=true:=by rw [(of_eq_true h4)];decide
 have h6:Int.toNat a0=1:=by rw [(of_eq_true h4)];rfl
 rotate_left
 by_cases h7:a0=2
 replace h7:=eq_true h7
 have h8:inb a0 18=true:=by rw [(of_eq_true h7)];decide
 have h9:Int.toNat a0=2:=by rw [(of_eq_true h7)];rfl
 rotate_left
 by_cases h10:a0=3
 replace h10:=eq_true h10
 have h11:inb a0 18=true:=by rw [(of_eq_true h10)];decide
 have h12:Int.toNat a0=3:=by rw [(of_eq_true h10)];rfl
 rotate_left
 by_cases h13:a0=4
 replace h13:=eq_true h13
 have h14:inb a0 18=true:=by rw [(of_eq_true h13)];decide
 have h15:Int.toNat a0=4:=by rw [(of_eq_true h13)];rfl
 rotate_left
 by_cases h16:a0=5
 replace h16:=eq_true h16
 have h17:inb a0 18=true:=by rw [(of_eq_true h16)];decide
 have h18:Int.toNat a0=5:=by rw [(of_eq_true h16)];rfl
 rotate_left
 by_cases h19:a0=6
 replace h19:=eq_true h19
 have h20:inb a0 18=true:=by rw [(of_eq_true h19)];decide
 have h21:Int.toNat a0=6:=by rw [(of_eq_true h19)];rfl
 rotate_left
 by_cases h22:a0=7
 replace h22:=eq_true h22
 have h23:inb a0 18=true:=by rw [(of_eq_true h22)];decide
 have h24:Int.toNat a0=7:=by rw [(of_eq_true h22)];rfl
 rotate_left
 by_cases h25:a0=8
 replace h25:=eq_true h25
 have h26:inb a0 18=true:=by rw [(of_eq_true h25)];decide
 have h27:Int.toNat a0=8:=by rw [(of_eq_true h25)];rfl
 rotate_left
 by_cases h28:a0=9
 replace h28:=eq_true h28
 have h29:inb a0 18=true:=by rw [(of_eq_true h28)];decide
 have h30:Int.toNat a0=9:=by rw [(of_eq_true h28)];rfl
 rotate_left
 by_cases h31:a0=10
 replace h31:=eq_true h31
 have h32:inb a0 18=true:=by rw [(of_eq_true h31)];decide
 have h33:Int.toNat a0=10:=by rw [(of_eq_true h31)];rfl
 rotate_left
 by_cases h34:a0=11
 replace h34:=eq_true h34
 have h35:inb a0 18=true:=by rw [(of_eq_true h34)];decide
 have h36:Int.toNat a0=11:=by rw [(of_eq_true h34)];rfl
 rotate_left
 by_cases h37:a0=12
 replace h37:=eq_true h37
 have h38:inb a0 18=true:=by rw [(of_eq_true h37)];decide
 have h39:Int.toNat a0=12:=by rw [(of_eq_true h37)];rfl
 rotate_left
 by_cases h40:a0=13
 replace h40:=eq_true h40
 have h41:inb a0 18=true:=by rw [(of_eq_true h40)];decide
 have h42:Int.toNat a0=13:=by rw [(of_eq_true h40)];rfl
 rotate_left
 by_cases h43:a0=14
 replace h43:=eq_true h43
 have h44:inb a0 18=true:=by rw [(of_eq_true h43)];decide
 have h45:Int.toNat a0=14:=by rw [(of_eq_true h43)];rfl
 rotate_left
 by_cases h46:a0=15
 replace h46:=eq_true h46
 have h47:inb a0 18=true:=by rw [(of_eq_true h46)];decide
 have h48:Int.toNat a0=15:=by rw [(of_eq_true h46)];rfl
 rotate_left
 by_cases h49:a0=16
 replace h49:=eq_true h49
 have h50:inb a0 18=true:=by rw [(of_eq_true h49)];decide
 have h51:Int.toNat a0=16:=by rw [(of_eq_true h49)];rfl
 rotate_left
 by_cases h52:a0=17
 replace h52:=eq_true h52
 have h53:inb a0 18=true:=by rw [(of_eq_true h52)];decide
 have h54:Int.toNat a0=17:=by rw [(of_eq_true h52)];rfl
 rotate_left
 have h55:inb a0 18=false:=by simp only [inb,Bool.and_eq_false_iff,decide_eq_false_iff_not];omega
 all_goals simp -implicitDefEqProofs only [*,a82,EVA.down,ne_eq,seval]
theorem vpauli_images {D F n:Nat}{args:List AV}{h:AHeap}:OV F (D+1) 82 args h n (n+1)=evW 2 (OV F D) F a82 (frzs (frz true 0 (bif AV.nors args then [] else h) 8) args) (AV.nors args) (hglb h 2):=evV_frozen rfl
theorem epauli_code (D:Nat)(hD:0≤D)(F:Nat)(a0_N:Int)(a0_X a0_Z:BitVec 64)(a0_Phase a1:Int)(q:Bool):evW 2 (OV F D) F a79 (some [.agg [.i .i64 a0_N,.i .u64 (U a0_X),.i .u64 (U a0_Z),.i .i64 a0_Phase],.i .i64 a1]) q G0 =
 match Ppauli_code a0_N a0_X a0_Z a0_Phase a1 with|none=>none|some r0=>some (.i .i64 r0,none):=by
 rw [evW_some,G0]
 simp only [Ppauli_code]
 by_cases h1:a1<0
 all_goals simp -implicitDefEqProofs only [*,a79,EVA.down,ne_eq,seval]
theorem vpauli_code {D F n:Nat}{args:List AV}{h:AHeap}:OV F (D+1) 79 args h n (n+1)=evW 2 (OV F D) F a79 (frzs (frz true 0 (bif AV.nors args then [] else h) 8) args) (AV.nors args) (hglb h 2):=evV_frozen rfl
theorem estrings_IndexByte (D:Nat)(hD:0≤D)(F:Nat)(a0:ByteArray)(a1:Int)(q:Bool):evW 2 (OV F D) F a99 (some [.s a0,.i .u8 (a1)]) q G0 =
 some (.i .i64 ((Pstrings_IndexByte a0 a1)),none):=by
 rw [evW_some,G0]
 skip
 all_goals simp -implicitDefEqProofs only [*,a99,Pstrings_IndexByte,k107,EVA.down,ne_eq,seval]
theorem vstrings_IndexByte {D F n:Nat}{args:List AV}{h:AHeap}:OV F (D+1) 99 args h n (n+1)=evW 2 (OV F D) F a99 (frzs (frz true 0 (bif AV.nors args then [] else h) 8) args) (AV.nors args) (hglb h 2):=evV_frozen rfl
theorem lpauli_spreadL0 (D:Nat)(hD:1≤D)(F:Nat)(v0:ByteArray)(v1:List Int)(v2 v4:Int)(v5 v6:BitVec 64)(v7 v8 v11:Int)(K:AE→AS→Option Res):∀ (f:Nat) (v3:Int) (v9 v10:BitVec 64) (s:AS),s.keep [0,6,7,17,18,19] [6,7]=some ⟨[(0,.s v0),(6,.lp 6 0),(7,.lp 7 0),(17,.vs v1.length .unk (enc c3 v1)),(18,.i .i64 v2),(19,.i .i64 v3)],[(6,[.i .i64 v4,.i .u64 (U v5),.i .u64 (U v6),.i .i64 v7]),(7,[.i .i64 v8,.i .u64 (U v9),.i .u64 (U v10),.i .i64 v11])],[(0,tab64)],2⟩→
 evLoop (evC (OV F D) 2 F a83L0) f s K=match Ppauli_spreadL0 v0 v1 v2 v4 v5 v6 v7 v8 v11 f v3 v9 v10 with|none=>none|some (y0,y1)=>K (.ex 0) ⟨[(6,.lp 6 0),(7,.lp 7 0)],[(6,[.i .i64 v4,.i .u64 (U v5),.i .u64 (U v6),.i .i64 v7]),(7,[.i .i64 v8,.i .u64 (U y0),.i .u64 (U y1),.i .i64 v11])],[(0,tab64)],2⟩:=by
 obtain ⟨D,rfl⟩:=dex hD
 have cstrings_IndexByte0:=estrings_IndexByte (D) (by omega) F
 intro f
 induction f with
 |zero=>intro v3 v9 v10 s hs;simp only [evLoop,Ppauli_spreadL0]
 |succ f ih=>
 intro v3 v9 v10 s hs
 obtain ⟨k0,hk,hn,he,hr⟩:=@lk_all (OV F (D+1)) 2 F a83L0 f K
 rw [loop_succ,hk,a83L0,runC_cut,hs]
 clear hs
 simp only [Ppauli_spreadL0]
 clear hk
 by_cases h1:v3<v2
 rcases ixo (@pk_c3 v1 v3) with h2|⟨x1,h2⟩
 rotate_left
 rcases h3:(bidx v0 (IntKind.i64.wrap (v3+1))) with _|x2
 rotate_left
 by_cases h4:((Pstrings_IndexByte (⟨#[73,88,89,90]⟩:ByteArray) x2))=1
 replace h4:=eq_true h4
 by_cases h5:x1<0
 rotate_left
 by_cases h6:((Pstrings_IndexByte (⟨#[73,88,89,90]⟩:ByteArray) x2))≥2
 rotate_left
 rotate_left
 by_cases h7:((Pstrings_IndexByte (⟨#[73,88,89,90]⟩:ByteArray) x2))=2
 replace h7:=eq_true h7
 by_cases h8:x1<0
 rotate_left
 by_cases h9:((Pstrings_IndexByte (⟨#[73,88,89,90]⟩:ByteArray) x2))≥2
 rotate_left
 rotate_left
 by_cases h10:((Pstrings_IndexByte (⟨#[73,88,89,90]⟩:ByteArray) x2))≥2
 by_cases h11:x1<0
 all_goals simp -implicitDefEqProofs only [*,-ih,vstrings_IndexByte,EVA.down,ne_eq,seval]
 all_goals exact ih _ _ _ _ (by simp only [*,-ih,vstrings_IndexByte,EVA.down,ne_eq,seval])
theorem epauli_spread (D:Nat)(hD:1≤D)(F:Nat)(a0:ByteArray)(a1:Int)(a2:List Int)(q:Bool):evW 2 (OV F D) F a83 (some [.s a0,.i .i64 a1,.vs a2.length .unk (enc c3 a2)]) q G0 =
 match Ppauli_spread F a0 a1 a2 with|none=>none|some (r0,r1,r2,r3)=>some (.agg [.i .i64 r0,.i .u64 (U r1),.i .u64 (U r2),.i .i64 r3],none):=by
 obtain ⟨D,rfl⟩:=dex hD
 rw [evW_some,G0]
 simp only [Ppauli_spread]
 rcases h1:(bidx a0 0) with _|x1
 rotate_left
 by_cases h2:x1=45
 replace h2:=eq_true h2
 simp -implicitDefEqProofs only [*,a83,runC_loop,EVA.down,ne_eq,seval]
 rw [lpauli_spreadL0 (D+1) (by omega) F a0 a2 (a2.length:Int) 0 0#64 0#64 0 a1 2 _ F 0 0#64 0#64 _ (by simp only [*,a83,EVA.down,ne_eq,seval];try rfl)]
 rcases h3:(Ppauli_spreadL0 a0 a2 (a2.length:Int) 0 0#64 0#64 0 a1 2 F 0 0#64 0#64) with _|⟨y2,y3⟩
 rotate_left
 rotate_left
 simp -implicitDefEqProofs only [*,a83,runC_loop,EVA.down,ne_eq,seval]
 rw [lpauli_spreadL0 (D+1) (by omega) F a0 a2 (a2.length:Int) 0 0#64 0#64 0 a1 0 _ F 0 0#64 0#64 _ (by simp only [*,a83,EVA.down,ne_eq,seval];try rfl)]
 rcases h4:(Ppauli_spreadL0 a0 a2 (a2.length:Int) 0 0#64 0#64 0 a1 0 F 0 0#64 0#64) with _|⟨y4,y5⟩
 all_goals simp -implicitDefEqProofs only [*,a83,EVA.down,ne_eq,seval]
theorem vpauli_spread {D F n:Nat}{args:List AV}{h:AHeap}:OV F (D+1) 83 args h n (n+1)=evW 2 (OV F D) F a83 (frzs (frz true 0 (bif AV.nors args then [] else h) 8) args) (AV.nors args) (hglb h 2):=evV_frozen rfl
theorem ebits_TrailingZeros64 (D:Nat)(hD:0≤D)(F:Nat)(a0:BitVec 64)(q:Bool):evW 2 (OV F D) F a78 (some [.i .u64 (U a0)]) q G0 =
 match Pbits_TrailingZeros64 a0 with|none=>none|some r0=>some (.i .i64 r0,none):=by
 have u58:AV.i .u64 58=.i .u64 (U 58#64):=id rfl
 have u285870213051353865:AV.i .u64 285870213051353865=.i .u64 (U 285870213051353865#64):=id rfl
 obtain ⟨mk,hmk⟩:∃ m:BitVec 64→BitVec 64,∀ x,x*285870213051353865#64=m x:=⟨fun x=>x*285870213051353865#64,fun _=>rfl⟩
 rw [evW_some,G0]
 simp only [Pbits_TrailingZeros64,hmk]
 by_cases h1:a0=0#64
 replace h1:=eq_true h1
 rotate_left
 rcases h2:(idx zs64 (U ((mk (a0 &&& (-a0))) >>> (58:Nat)))) with _|x1
 have h2o:=tab_out h2
 rotate_left
 have h2i:=tab_inb h2
 have h2r:=tab_at h2
 all_goals simp -implicitDefEqProofs only [*,a78,EVA.down,ne_eq,seval]
theorem vbits_TrailingZeros64 {D F n:Nat}{args:List AV}{h:AHeap}:OV F (D+1) 78 args h n (n+1)=evW 2 (OV F D) F a78 (frzs (frz true 0 (bif AV.nors args then [] else h) 8) args) (AV.nors args) (hglb h 2):=evV_frozen rfl
theorem lpauli_timesL0 (D:Nat)(hD:1≤D)(F:Nat)(v2:Int)(v3 v4:BitVec 64)(v5 v6:Int)(v7 v8:BitVec 64)(v9 v10:Int)(v11 v12:BitVec 64)(v13:Int)(K:AE→AS→Option Res):∀ (f:Nat) (v0:Int) (v1:BitVec 64) (s:AS),s.keep [2,3,4,5,6] [2,3,4]=some ⟨[(2,.lp 2 0),(3,.lp 3 0),(4,.lp 4 0),(5,.i .i64 v0),(6,.i .u64 (U v1))],[(2,[.i .i64 v2,.i .u64 (U v3),.i .u64 (U v4),.i .i64 v5]),(3,[.i .i64 v6,.i .u64 (U v7),.i .u64 (U v8),.i .i64 v9]),(4,[.i .i64 v10,.i .u64 (U v11),.i .u64 (U v12),.i .i64 v13])],[(0,tab64)],2⟩→
 evLoop (evC (OV F D) 2 F a45L0) f s K=match Ppauli_timesL0 v2 v3 v4 v5 v6 v7 v8 v9 v10 v11 v12 v13 f v0 v1 with|none=>none|some (y0)=>K (.ex 0) ⟨[(2,.lp 2 0),(3,.lp 3 0),(4,.lp 4 0),(5,.i .i64 y0)],[(2,[.i .i64 v2,.i .u64 (U v3),.i .u64 (U v4),.i .i64 v5]),(3,[.i .i64 v6,.i .u64 (U v7),.i .u64 (U v8),.i .i64 v9]),(4,[.i .i64 v10,.i .u64 (U v11),.i .u64 (U v12),.i .i64 v13])],[(0,tab64)],2⟩:=by
 obtain ⟨D,rfl⟩:=dex hD
 have cbits_TrailingZeros640:=ebits_TrailingZeros64 (D) (by omega) F
 have cpauli_code0:=epauli_code (D) (by omega) F
 intro f
 induction f with
 |zero=>intro v0 v1 s hs;simp only [evLoop,Ppauli_timesL0]
 |succ f ih=>
 intro v0 v1 s hs
 obtain ⟨k0,hk,hn,he,hr⟩:=@lk_all (OV F (D+1)) 2 F a45L0 f K
 rw [loop_succ,hk,a45L0,runC_cut,hs]
 clear hs
 simp only [Ppauli_timesL0]
 clear hk
 by_cases h1:v1=0#64
 replace h1:=eq_true h1
 rotate_left
 rcases h2:(Pbits_TrailingZeros64 v1) with _|r1
 rotate_left
 rcases h3:(Ppauli_code v6 v7 v8 v9 r1) with _|r2
 rotate_left
 rcases h4:(Ppauli_code v2 v3 v4 v5 r1) with _|r3
 rotate_left
 by_cases h5:((IntKind.i64.wrap ((IntKind.i64.wrap (r2-r3))+3)).tmod 3)=1
 replace h5:=eq_true h5
 rotate_left
 by_cases h6:((IntKind.i64.wrap ((IntKind.i64.wrap (r2-r3))+3)).tmod 3)=2
 replace h6:=eq_true h6
 all_goals simp -implicitDefEqProofs only [*,-ih,vbits_TrailingZeros64,vpauli_code,EVA.down,ne_eq,seval]
 all_goals exact ih _ _ _ (by simp only [*,-ih,vbits_TrailingZeros64,vpauli_code,EVA.down,ne_eq,seval])
theorem epauli_times (D:Nat)(hD:1≤D)(F:Nat)(a0_N:Int)(a0_X a0_Z:BitVec 64)(a0_Phase a1_N:Int)(a1_X a1_Z:BitVec 64)(a1_Phase:Int)(q:Bool):evW 2 (OV F D) F a45 (some [.agg [.i .i64 a0_N,.i .u64 (U a0_X),.i .u64 (U a0_Z),.i .i64 a0_Phase],.agg [.i .i64 a1_N,.i .u64 (U a1_X),.i .u64 (U a1_Z),.i .i64 a1_Phase]]) q G0 =
 match Ppauli_times F a0_N a0_X a0_Z a0_Phase a1_N a1_X a1_Z a1_Phase with|none=>none|some (r0,r1,r2,r3)=>some (.agg [.i .i64 r0,.i .u64 (U r1),.i .u64 (U r2),.i .i64 r3],none):=by
 obtain ⟨D,rfl⟩:=dex hD
 rw [evW_some,G0]
 simp only [Ppauli_times]
 simp -implicitDefEqProofs only [*,a45,runC_loop,EVA.down,ne_eq,seval]
 rw [lpauli_timesL0 (D+1) (by omega) F a0_N a0_X a0_Z a0_Phase a1_N a1_X a1_Z a1_Phase 0 0#64 0#64 0 _ F (IntKind.i64.wrap (a0_Phase+a1_Phase)) ((a0_X ||| a0_Z) &&& (a1_X ||| a1_Z)) _ (by simp only [*,a45,EVA.down,ne_eq,seval];try rfl)]
 rcases h1:(Ppauli_timesL0 a0_N a0_X a0_Z a0_Phase a1_N a1_X a1_Z a1_Phase 0 0#64 0#64 0 F (IntKind.i64.wrap (a0_Phase+a1_Phase)) ((a0_X ||| a0_Z) &&& (a1_X ||| a1_Z))) with _|y1
 all_goals simp -implicitDefEqProofs only [*,a45,EVA.down,ne_eq,seval]
theorem vpauli_times {D F n:Nat}{args:List AV}{h:AHeap}:OV F (D+1) 45 args h n (n+1)=evW 2 (OV F D) F a45 (frzs (frz true 0 (bif AV.nors args then [] else h) 8) args) (AV.nors args) (hglb h 2):=evV_frozen rfl
theorem lpauli_ThroughL1 (D:Nat)(hD:2≤D)(F:Nat)(v0:List Int)(v1:List ByteArray)(v2:List Int)(v3 v5:Int)(v6 v7:BitVec 64)(v8 v9:Int)(v10 v11:BitVec 64)(v12:Int)(K:AE→AS→Option Res):∀ (f:Nat) (v4 v13:Int) (v14 v15:BitVec 64) (v16:Int) (s:AS),s.keep [2,3,6,8,11,54,55,56] [3,6,8]=some ⟨[(2,.vs v0.length .unk (enc c3 v0)),(3,.lp 3 0),(6,.lp 6 0),(8,.lp 8 0),(11,.vs v1.length .unk (enc c9 v1)),(54,.vs v2.length .unk (enc c3 v2)),(55,.i .i64 v3),(56,.i .i64 v4)],[(3,[.i .i64 v5,.i .u64 (U v6),.i .u64 (U v7),.i .i64 v8]),(6,[.i .i64 v9,.i .u64 (U v10),.i .u64 (U v11),.i .i64 v12]),(8,[.i .i64 v13,.i .u64 (U v14),.i .u64 (U v15),.i .i64 v16])],[(0,tab64)],2⟩→
 evLoop (evC (OV F D) 2 F a51L1) f s K=match Ppauli_ThroughL1 F v0 v1 v2 v3 v5 v6 v7 v8 v9 v10 v11 v12 f v4 v13 v14 v15 v16 with|none=>none|some (y0,y1,y2,y3)=>K (.ex 2) ⟨[(6,.lp 6 0),(8,.lp 8 0)],[(6,[.i .i64 v9,.i .u64 (U v10),.i .u64 (U v11),.i .i64 v12]),(8,[.i .i64 y0,.i .u64 (U y1),.i .u64 (U y2),.i .i64 y3])],[(0,tab64)],2⟩:=by
 obtain ⟨D,rfl⟩:=dex hD
 have cpauli_times0:=epauli_times (D+1) (by omega) F
 have cpauli_code0:=epauli_code (D+1) (by omega) F
 have cpauli_spread0:=epauli_spread (D+1) (by omega) F
 intro f
 induction f with
 |zero=>intro v4 v13 v14 v15 v16 s hs;simp only [evLoop,Ppauli_ThroughL1]
 |succ f ih=>
 intro v4 v13 v14 v15 v16 s hs
 obtain ⟨k0,hk,hn,he,hr⟩:=@lk_all (OV F (D+2)) 2 F a51L1 f K
 rw [loop_succ,hk,a51L1,runC_cut,hs]
 clear hs
 simp only [Ppauli_ThroughL1]
 clear hk
 by_cases h1:v4<v3
 rcases ixo (@pk_c3 v2 v4) with h2|⟨x1,h2⟩
 rotate_left
 rcases h3:(Ppauli_code v5 v6 v7 v8 x1) with _|r2
 rotate_left
 by_cases h4:r2=2
 replace h4:=eq_true h4
 by_cases h5:r2=1
 replace h5:=eq_true h5
 rcases ixo (@pk_c9 v1 (IntKind.i64.wrap (2*v4))) with h6|⟨x3,h6⟩
 rotate_left
 rcases h7:(Ppauli_spread F x3 v5 v0) with _|⟨r4,r5,r6,r7⟩
 rotate_left
 rcases h8:(Ppauli_times F v13 v14 v15 ((IntKind.i64.wrap (v16+1)).tmod 4) r4 r5 r6 r7) with _|⟨r8,r9,r10,r11⟩
 rotate_left
 by_cases h9:r2≥2
 rcases ixo (@pk_c9 v1 (IntKind.i64.wrap ((IntKind.i64.wrap (2*v4))+1))) with h10|⟨x12,h10⟩
 rotate_left
 rcases h11:(Ppauli_spread F x12 v5 v0) with _|⟨r13,r14,r15,r16⟩
 rotate_left
 rcases h12:(Ppauli_times F r8 r9 r10 r11 r13 r14 r15 r16) with _|⟨r17,r18,r19,r20⟩
 rotate_left
 rotate_left
 rotate_left
 rcases ixo (@pk_c9 v1 (IntKind.i64.wrap (2*v4))) with h13|⟨x21,h13⟩
 rotate_left
 rcases h14:(Ppauli_spread F x21 v5 v0) with _|⟨r22,r23,r24,r25⟩
 rotate_left
 rcases h15:(Ppauli_times F v13 v14 v15 ((IntKind.i64.wrap (v16+1)).tmod 4) r22 r23 r24 r25) with _|⟨r26,r27,r28,r29⟩
 rotate_left
 by_cases h16:r2≥2
 rcases ixo (@pk_c9 v1 (IntKind.i64.wrap ((IntKind.i64.wrap (2*v4))+1))) with h17|⟨x30,h17⟩
 rotate_left
 rcases h18:(Ppauli_spread F x30 v5 v0) with _|⟨r31,r32,r33,r34⟩
 rotate_left
 rcases h19:(Ppauli_times F r26 r27 r28 r29 r31 r32 r33 r34) with _|⟨r35,r36,r37,r38⟩
 rotate_left
 rotate_left
 rotate_left
 by_cases h20:r2=1
 replace h20:=eq_true h20
 rcases ixo (@pk_c9 v1 (IntKind.i64.wrap (2*v4))) with h21|⟨x39,h21⟩
 rotate_left
 rcases h22:(Ppauli_spread F x39 v5 v0) with _|⟨r40,r41,r42,r43⟩
 rotate_left
 rcases h23:(Ppauli_times F v13 v14 v15 v16 r40 r41 r42 r43) with _|⟨r44,r45,r46,r47⟩
 rotate_left
 by_cases h24:r2≥2
 rcases ixo (@pk_c9 v1 (IntKind.i64.wrap ((IntKind.i64.wrap (2*v4))+1))) with h25|⟨x48,h25⟩
 rotate_left
 rcases h26:(Ppauli_spread F x48 v5 v0) with _|⟨r49,r50,r51,r52⟩
 rotate_left
 rcases h27:(Ppauli_times F r44 r45 r46 r47 r49 r50 r51 r52) with _|⟨r53,r54,r55,r56⟩
 rotate_left
 rotate_left
 rotate_left
 by_cases h28:r2≥2
 rcases ixo (@pk_c9 v1 (IntKind.i64.wrap ((IntKind.i64.wrap (2*v4))+1))) with h29|⟨x57,h29⟩
 rotate_left
 rcases h30:(Ppauli_spread F x57 v5 v0) with _|⟨r58,r59,r60,r61⟩
 rotate_left
 rcases h31:(Ppauli_times F v13 v14 v15 v16 r58 r59 r60 r61) with _|⟨r62,r63,r64,r65⟩
 all_goals simp -implicitDefEqProofs only [*,-ih,vpauli_times,vpauli_code,vpauli_spread,EVA.down,ne_eq,seval]
 all_goals exact ih _ _ _ _ _ _ (by simp only [*,-ih,vpauli_times,vpauli_code,vpauli_spread,EVA.down,ne_eq,seval])
theorem epauli_Through (D:Nat)(hD:4≤D)(F:Nat)(a0_N:Int)(a0_X a0_Z:BitVec 64)(a0_Phase a1:Int)(a2:List Int)(q:Bool):evW 2 (OV F D) F a51 (some [.agg [.i .i64 a0_N,.i .u64 (U a0_X),.i .u64 (U a0_Z),.i .i64 a0_Phase],.i .i64 a1,.vs a2.length .unk (enc c3 a2)]) q G0 =
 match Ppauli_Through F a0_N a0_X a0_Z a0_Phase a1 a2 with|none=>none|some (r0,r1,r2,r3,r4)=>some (.tup [.agg [.i .i64 r0,.i .u64 (U r1),.i .u64 (U r2),.i .i64 r3],.i .i64 r4],none):=by
 obtain ⟨D,rfl⟩:=dex hD
 have cgate_Check0:=egate_Check (D+3) (by omega) F
 have cgate_Clifford0:=egate_Clifford (D+3) (by omega) F
 have cpauli_right0:=epauli_right (D+3) (by omega) F
 have cpauli_images0:=epauli_images (D+3) (by omega) F
 rw [evW_some,G0]
 simp only [Ppauli_Through]
 rcases h1:((Ppauli_right a0_N a0_X a0_Z a0_Phase)) with _|_
 rotate_left
 rcases h2:((Pgate_Clifford a1)) with _|_
 rotate_left
 rcases h3:(Pgate_Check F a1 a2 a0_N) with _|r1
 rotate_left
 by_cases h4:r1=0
 replace h4:=eq_true h4
 simp -implicitDefEqProofs only [*,a51,vgate_Check,vgate_Clifford,vpauli_right,vpauli_images,runC_loop,EVA.down,ne_eq,seval]
 rw [lpauli_ThroughL0 (D+4) (by omega) F a1 a2 a2 (a2.length:Int) a0_N a0_X a0_Z a0_Phase 0 0#64 0#64 0 a0_N a0_Phase _ F 0 a0_X a0_Z _ (by simp only [*,a51,vgate_Check,vgate_Clifford,vpauli_right,vpauli_images,EVA.down,ne_eq,seval];try rfl)]
 rcases h5:(Ppauli_ThroughL0 a1 a2 a2 (a2.length:Int) a0_N a0_X a0_Z a0_Phase 0 0#64 0#64 0 a0_N a0_Phase F 0 a0_X a0_Z) with _|⟨y2,y3⟩
 rotate_left
 rcases h6:(Ppauli_images a1) with _|r4
 rotate_left
 simp -implicitDefEqProofs only [*,a51,vgate_Check,vgate_Clifford,vpauli_right,vpauli_images,runC_loop,EVA.down,ne_eq,seval]
 rw [lpauli_ThroughL1 (D+4) (by omega) F a2 r4 a2 (a2.length:Int) a0_N a0_X a0_Z a0_Phase 0 0#64 0#64 0 _ F 0 a0_N y2 y3 a0_Phase _ (by simp only [*,a51,vgate_Check,vgate_Clifford,vpauli_right,vpauli_images,EVA.down,ne_eq,seval];try rfl)]
 rcases h7:(Ppauli_ThroughL1 F a2 r4 a2 (a2.length:Int) a0_N a0_X a0_Z a0_Phase 0 0#64 0#64 0 F 0 a0_N y2 y3 a0_Phase) with _|⟨y5,y6,y7,y8⟩
 all_goals simp -implicitDefEqProofs only [*,a51,vgate_Check,vgate_Clifford,vpauli_right,vpauli_images,EVA.down,ne_eq,seval]
theorem vpauli_Through {D F n:Nat}{args:List AV}{h:AHeap}:OV F (D+1) 51 args h n (n+1)=evW 2 (OV F D) F a51 (frzs (frz true 0 (bif AV.nors args then [] else h) 8) args) (AV.nors args) (hglb h 2):=evV_frozen rfl
theorem ltb_GateL0 (D:Nat)(hD:5≤D)(F:Nat)(v0 v1:List Pl)(v2 v3 v4:Int)(v5:List Int)(K:AE→AS→Option Res):∀ (f:Nat) (s:AS),s.keep [0,1,2,6,7,8] []=some ⟨[(0,.vs v0.length .unk (enc Pl.cells v0)),(1,.p (some (2,0))),(2,.p (some (3,0))),(6,.vs v1.length .unk (enc Pl.cells v1)),(7,.i .i64 v2),(8,.i .i64 v3)],[],[(2,⟨true,false,43,1,[.i .i64 v4]⟩),(3,⟨true,false,44,1,[.vs v5.length .unk (enc c3 v5)]⟩),(0,tab64)],4⟩→
 evLoop (evC (OV F D) 2 F a50L0) f s K=match Ptb_GateL0 F v0 v1 v2 v3 v4 v5 f with|none=>none|some (_)=>K (.ex 0) ⟨[],[],[(2,⟨true,false,43,1,[.i .i64 v4]⟩),(3,⟨true,false,44,1,[.vs v5.length .unk (enc c3 v5)]⟩),(0,tab64)],4⟩:=by
 obtain ⟨D,rfl⟩:=dex hD
 have cpauli_Through0:=epauli_Through (D+4) (by omega) F
 intro f
 induction f with
 |zero=>intro s hs;simp only [evLoop,Ptb_GateL0]
 |succ f ih=>
 intro s hs
 obtain ⟨k0,hk,hn,he,hr⟩:=@lk_all (OV F (D+5)) 2 F a50L0 f K
 rw [loop_succ,hk,a50L0,runC_cut,hs]
 clear hs
 simp only [Ptb_GateL0]
 clear hk
 by_cases h1:v3<v2
 rcases ixo (@pk_Pl_cells v1 v3) with h2|⟨x1,h2⟩
 rotate_left
 rcases h3:(Ppauli_Through F x1.N x1.X x1.Z x1.Ph v4 v5) with _|⟨r2,r3,r4,r5,r6⟩
 rotate_left
 rcases ixo (@pk_Pl_cells v0 v3) with h4|⟨x7,h4⟩
 all_goals simp -implicitDefEqProofs only [*,-ih,vpauli_Through,EVA.down,ne_eq,seval]
theorem ltb_GateL1 (D:Nat)(hD:5≤D)(F:Nat)(v0 v1:List Pl)(v2 v3:Int)(v4:List Pl)(v5:Int)(v6:List Int)(K:AE→AS→Option Res):∀ (f:Nat) (s:AS),s.keep [0,1,2,6,7,8] []=some ⟨[(0,.vs v0.length .unk (enc Pl.cells v0)),(1,.p (some (2,0))),(2,.p (some (3,0))),(6,.vs v1.length .unk (enc Pl.cells v1)),(7,.i .i64 v2),(8,.i .i64 v3)],[],[(4,⟨true,true,39,4,enc Pl.cells v4⟩),(2,⟨true,false,43,1,[.i .i64 v5]⟩),(3,⟨true,false,44,1,[.vs v6.length .unk (enc c3 v6)]⟩),(0,tab64)],5⟩→
 evLoop (evC (OV F D) 2 F a50L0) f s K=match Ptb_GateL1 F v0 v1 v2 v3 v4 v5 v6 f with|none=>none|some (_)=>K (.ex 0) ⟨[],[],[(4,⟨true,true,39,4,enc Pl.cells v4⟩),(2,⟨true,false,43,1,[.i .i64 v5]⟩),(3,⟨true,false,44,1,[.vs v6.length .unk (enc c3 v6)]⟩),(0,tab64)],5⟩:=by
 obtain ⟨D,rfl⟩:=dex hD
 have cpauli_Through0:=epauli_Through (D+4) (by omega) F
 intro f
 induction f with
 |zero=>intro s hs;simp only [evLoop,Ptb_GateL1]
 |succ f ih=>
 intro s hs
 obtain ⟨k0,hk,hn,he,hr⟩:=@lk_all (OV F (D+5)) 2 F a50L0 f K
 rw [loop_succ,hk,a50L0,runC_cut,hs]
 clear hs
 simp only [Ptb_GateL1]
 clear hk
 by_cases h1:v3<v2
 rcases ixo (@pk_Pl_cells v1 v3) with h2|⟨x1,h2⟩
 rotate_left
 rcases h3:(Ppauli_Through F x1.N x1.X x1.Z x1.Ph v5 v6) with _|⟨r2,r3,r4,r5,r6⟩
 rotate_left
 rcases ixo (@pk_Pl_cells v0 v3) with h4|⟨x7,h4⟩
 all_goals simp -implicitDefEqProofs only [*,-ih,vpauli_Through,EVA.down,ne_eq,seval]
theorem ltb_GateL2 (D:Nat)(hD:5≤D)(F:Nat)(v0 v3:Int)(v4:List Int)(K:AE→AS→Option Res):∀ (f:Nat) (v1:Int) (v2:List Pl) (s:AS),s.keep [0,1,2,6,7,8] []=some ⟨[(0,.sl (some (4,0)) v2.length .op),(1,.p (some (2,0))),(2,.p (some (3,0))),(6,.sl (some (4,0)) v2.length .op),(7,.i .i64 v0),(8,.i .i64 v1)],[],[(4,⟨true,true,39,4,enc Pl.cells v2⟩),(2,⟨true,false,43,1,[.i .i64 v3]⟩),(3,⟨true,false,44,1,[.vs v4.length .unk (enc c3 v4)]⟩),(0,tab64)],5⟩→
 evLoop (evC (OV F D) 2 F a50L0) f s K=match Ptb_GateL2 F v0 v3 v4 f v1 v2 with|none=>none|some (y0)=>K (.ex 0) ⟨[],[],[(4,⟨true,true,39,4,enc Pl.cells y0⟩),(2,⟨true,false,43,1,[.i .i64 v3]⟩),(3,⟨true,false,44,1,[.vs v4.length .unk (enc c3 v4)]⟩),(0,tab64)],5⟩:=by
 obtain ⟨D,rfl⟩:=dex hD
 have cpauli_Through0:=epauli_Through (D+4) (by omega) F
 intro f
 induction f with
 |zero=>intro v1 v2 s hs;simp only [evLoop,Ptb_GateL2]
 |succ f ih=>
 intro v1 v2 s hs
 obtain ⟨k0,hk,hn,he,hr⟩:=@lk_all (OV F (D+5)) 2 F a50L0 f K
 rw [loop_succ,hk,a50L0,runC_cut,hs]
 clear hs
 simp only [Ptb_GateL2]
 clear hk
 by_cases h1:v1<v0
 rcases ixo (@pk_Pl_cells v2 v1) with h2|⟨x1,h2⟩
 rotate_left
 rcases h3:(Ppauli_Through F x1.N x1.X x1.Z x1.Ph v3 v4) with _|⟨r2,r3,r4,r5,r6⟩
 rotate_left
 have h4:v1.toNat*4+4≤v2.length*4:=by have:=(idx_some h2.1).2.1;omega
 have h5:splice (enc Pl.cells v2) (v1.toNat*4) [.i .i64 r2,.i .u64 (U r3),.i .u64 (U r4),.i .i64 r5]=enc Pl.cells ((v2).set v1.toNat (⟨r2,r3,r4,r5⟩:Pl)):=own_put len_Pl_cells h2.1 (⟨r2,r3,r4,r5⟩:Pl)
 all_goals simp -implicitDefEqProofs only [*,-ih,vpauli_Through,EVA.down,ne_eq,seval]
 all_goals exact ih _ _ _ (by simp only [*,-ih,vpauli_Through,EVA.down,ne_eq,seval])
theorem ltb_GateL3 (D:Nat)(hD:5≤D)(F:Nat)(v0:Int)(v3:List Pl)(v4:Int)(v5:List Int)(K:AE→AS→Option Res):∀ (f:Nat) (v1:Int) (v2:List Pl) (s:AS),s.keep [0,1,2,6,7,8] []=some ⟨[(0,.sl (some (4,0)) v2.length .op),(1,.p (some (2,0))),(2,.p (some (3,0))),(6,.sl (some (4,0)) v2.length .op),(7,.i .i64 v0),(8,.i .i64 v1)],[],[(4,⟨true,true,39,4,enc Pl.cells v2⟩),(5,⟨true,true,39,4,enc Pl.cells v3⟩),(2,⟨true,false,43,1,[.i .i64 v4]⟩),(3,⟨true,false,44,1,[.vs v5.length .unk (enc c3 v5)]⟩),(0,tab64)],6⟩→
 evLoop (evC (OV F D) 2 F a50L0) f s K=match Ptb_GateL3 F v0 v3 v4 v5 f v1 v2 with|none=>none|some (y0)=>K (.ex 0) ⟨[],[],[(4,⟨true,true,39,4,enc Pl.cells y0⟩),(5,⟨true,true,39,4,enc Pl.cells v3⟩),(2,⟨true,false,43,1,[.i .i64 v4]⟩),(3,⟨true,false,44,1,[.vs v5.length .unk (enc c3 v5)]⟩),(0,tab64)],6⟩:=by
 obtain ⟨D,rfl⟩:=dex hD
 have cpauli_Through0:=epauli_Through (D+4) (by omega) F
 intro f
 induction f with
 |zero=>intro v1 v2 s hs;simp only [evLoop,Ptb_GateL3]
 |succ f ih=>
 intro v1 v2 s hs
 obtain ⟨k0,hk,hn,he,hr⟩:=@lk_all (OV F (D+5)) 2 F a50L0 f K
 rw [loop_succ,hk,a50L0,runC_cut,hs]
 clear hs
 simp only [Ptb_GateL3]
 clear hk
 by_cases h1:v1<v0
 rcases ixo (@pk_Pl_cells v2 v1) with h2|⟨x1,h2⟩
 rotate_left
 rcases h3:(Ppauli_Through F x1.N x1.X x1.Z x1.Ph v4 v5) with _|⟨r2,r3,r4,r5,r6⟩
 rotate_left
 have h4:v1.toNat*4+4≤v2.length*4:=by have:=(idx_some h2.1).2.1;omega
 have h5:splice (enc Pl.cells v2) (v1.toNat*4) [.i .i64 r2,.i .u64 (U r3),.i .u64 (U r4),.i .i64 r5]=enc Pl.cells ((v2).set v1.toNat (⟨r2,r3,r4,r5⟩:Pl)):=own_put len_Pl_cells h2.1 (⟨r2,r3,r4,r5⟩:Pl)
 all_goals simp -implicitDefEqProofs only [*,-ih,vpauli_Through,EVA.down,ne_eq,seval]
 all_goals exact ih _ _ _ (by simp only [*,-ih,vpauli_Through,EVA.down,ne_eq,seval])
theorem ltb_GateL4 (D:Nat)(hD:5≤D)(F:Nat)(v0:Int)(v2:List Pl)(v4:Int)(v5:List Int)(K:AE→AS→Option Res):∀ (f:Nat) (v1:Int) (v3:List Pl) (s:AS),s.keep [0,1,2,6,7,8] []=some ⟨[(0,.sl (some (5,0)) v3.length .op),(1,.p (some (2,0))),(2,.p (some (3,0))),(6,.sl (some (5,0)) v3.length .op),(7,.i .i64 v0),(8,.i .i64 v1)],[],[(4,⟨true,true,39,4,enc Pl.cells v2⟩),(5,⟨true,true,39,4,enc Pl.cells v3⟩),(2,⟨true,false,43,1,[.i .i64 v4]⟩),(3,⟨true,false,44,1,[.vs v5.length .unk (enc c3 v5)]⟩),(0,tab64)],6⟩→
 evLoop (evC (OV F D) 2 F a50L0) f s K=match Ptb_GateL4 F v0 v2 v4 v5 f v1 v3 with|none=>none|some (y0)=>K (.ex 0) ⟨[],[],[(4,⟨true,true,39,4,enc Pl.cells v2⟩),(5,⟨true,true,39,4,enc Pl.cells y0⟩),(2,⟨true,false,43,1,[.i .i64 v4]⟩),(3,⟨true,false,44,1,[.vs v5.length .unk (enc c3 v5)]⟩),(0,tab64)],6⟩:=by
 obtain ⟨D,rfl⟩:=dex hD
 have cpauli_Through0:=epauli_Through (D+4) (by omega) F
 intro f
 induction f with
 |zero=>intro v1 v3 s hs;simp only [evLoop,Ptb_GateL4]
 |succ f ih=>
 intro v1 v3 s hs
 obtain ⟨k0,hk,hn,he,hr⟩:=@lk_all (OV F (D+5)) 2 F a50L0 f K
 rw [loop_succ,hk,a50L0,runC_cut,hs]
 clear hs
 simp only [Ptb_GateL4]
 clear hk
 by_cases h1:v1<v0
 rcases ixo (@pk_Pl_cells v3 v1) with h2|⟨x1,h2⟩
 rotate_left
 rcases h3:(Ppauli_Through F x1.N x1.X x1.Z x1.Ph v4 v5) with _|⟨r2,r3,r4,r5,r6⟩
 rotate_left
 have h4:v1.toNat*4+4≤v3.length*4:=by have:=(idx_some h2.1).2.1;omega
 have h5:splice (enc Pl.cells v3) (v1.toNat*4) [.i .i64 r2,.i .u64 (U r3),.i .u64 (U r4),.i .i64 r5]=enc Pl.cells ((v3).set v1.toNat (⟨r2,r3,r4,r5⟩:Pl)):=own_put len_Pl_cells h2.1 (⟨r2,r3,r4,r5⟩:Pl)
 all_goals simp -implicitDefEqProofs only [*,-ih,vpauli_Through,EVA.down,ne_eq,seval]
 all_goals exact ih _ _ _ (by simp only [*,-ih,vpauli_Through,EVA.down,ne_eq,seval])
theorem xtb_Gate_1 {D F n fl:Nat}{args:List AV}{h:AHeap}(h1:fl≠n)(h2:fl≠n+1):OV F (D+1) 50 args h n fl=match evFn (OV F D) fl F a50 args h n with|some (v,h',n')=>some (v,some (h',n'))|none=>none:=evV_write rfl rfl h1 h2
end Go.Proofs.YtogkkamlmklpkaaDoor.Ab
