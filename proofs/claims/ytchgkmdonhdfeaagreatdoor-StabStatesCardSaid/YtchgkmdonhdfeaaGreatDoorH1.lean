/- Functions of the program as plain functions, and that the abstract machine's evaluation comes to them. Written by G.py. No condition. -/
import Derived.Test.YtchgkmdonhdfeaaGreatDoorHd
set_option maxRecDepth 100000
set_option maxHeartbeats 4000000
set_option linter.unusedVariables false
set_option linter.unusedSimpArgs false
namespace Go.Proofs.YtchgkmdonhdfeaaGreatDoor.Ab
open Go
theorem len_Pl_cells:∀ x,(Pl.cells x).length=4:=fun _=>rfl
theorem nors_Pl_cells (x:Pl):AV.nors (Pl.cells x)=true:=by simp only [Pl.cells,AV.nors,AV.nor,Bool.and_self]
theorem one_Pl_cells (x:Pl):(Pl.cells x).all AV.one=true:=by simp only [Pl.cells,List.all_cons,List.all_nil,AV.one,Bool.and_self]
theorem flat_Pl_cells (x:Pl):(Pl.cells x).all AV.flat1=true:=by simp only [Pl.cells,List.all_cons,List.all_nil,AV.flat1,Bool.and_self]
theorem encnors_Pl_cells (l:List Pl):AV.nors (enc Pl.cells l)=true:=enc_nors nors_Pl_cells l
theorem enclen_Pl_cells (l:List Pl):(enc Pl.cells l).length=l.length*4:=enc_len len_Pl_cells l
theorem encone_Pl_cells (l:List Pl):(enc Pl.cells l).all AV.one=true:=enc_all one_Pl_cells l
theorem encall_Pl_cells (l:List Pl):(enc Pl.cells l).all AV.flat1=true:=enc_all flat_Pl_cells l
theorem flatt_Pl_cells (x:Pl):(Pl.cells x).all AV.flat2=true:=by simp only [Pl.cells,List.all_cons,List.all_nil,AV.flat2,Bool.and_self]
theorem encflat_Pl_cells {q:Bool}{b:Nat}{h:AHeap}{f:Nat}(l:List Pl):frzs (frz q b h (f+1)) (enc Pl.cells l)=some (enc Pl.cells l):=frzs_flat2 (enc_all flatt_Pl_cells l)
theorem enctake_Pl_cells (l:List Pl):(enc Pl.cells l).take (l.length*4)=enc Pl.cells l:=by simpa only [Nat.mul_one] using enc_take len_Pl_cells l
theorem encids_Pl_cells {b:Nat}{l:List Nat}(m:List Pl):AV.idss b (enc Pl.cells m) l=l:=idss_nors (encnors_Pl_cells m)
theorem encren_Pl_cells {b c:Nat}{l:List Nat}(m:List Pl):AV.rens b c l (enc Pl.cells m)=some (enc Pl.cells m):=rens_id (encnors_Pl_cells m)
theorem encold_Pl_cells {b:Nat}(m:List Pl):AV.olds b (enc Pl.cells m)=true:=olds_nors (encnors_Pl_cells m)
theorem encpart_Pl_cells (l:List Pl)(k:Nat):(enc Pl.cells l).take (k*4)=enc Pl.cells (l.take k):=by simpa only [Nat.mul_one] using enc_takew len_Pl_cells l k
theorem encdrop_Pl_cells (l:List Pl)(k:Nat):(enc Pl.cells l).drop (k*4)=enc Pl.cells (l.drop k):=by simpa only [Nat.mul_one] using enc_dropw len_Pl_cells l k
theorem pk_Pl_cells {l:List Pl}{j:Int}{x:Pl}(h:idx l j=some x):idx l j=some x∧inb j l.length=true∧apart_ ((enc Pl.cells l).drop (j.toNat*4)) 0 (some 4)=some (.agg (Pl.cells x))∧apart_ ((enc Pl.cells l).drop (j.toNat*4)) 0 none=(Pl.cells x)[0]?∧apart_ (((enc Pl.cells l).drop (j.toNat*4)).drop 1) 0 none=(Pl.cells x)[1]?∧apart_ (((enc Pl.cells l).drop (j.toNat*4)).drop 2) 0 none=(Pl.cells x)[2]?∧apart_ (((enc Pl.cells l).drop (j.toNat*4)).drop 3) 0 none=(Pl.cells x)[3]?∧apart_ (enc Pl.cells l) (j.toNat*4) (some 4)=some (.agg (Pl.cells x))∧apart_ (enc Pl.cells l) (j.toNat*4) none=(Pl.cells x)[0]?∧apart_ (enc Pl.cells l) (j.toNat*4+1) none=(Pl.cells x)[1]?∧apart_ (enc Pl.cells l) (j.toNat*4+2) none=(Pl.cells x)[2]?∧apart_ (enc Pl.cells l) (j.toNat*4+3) none=(Pl.cells x)[3]?:=⟨h,idx_inb h,vp_row len_Pl_cells h,vp_cell0 len_Pl_cells h (by decide),vp_cell (k:=1) len_Pl_cells h (by decide),vp_cell (k:=2) len_Pl_cells h (by decide),vp_cell (k:=3) len_Pl_cells h (by decide),own_row len_Pl_cells h,own_cell0 len_Pl_cells h (by decide),own_cell (k:=1) len_Pl_cells h (by decide),own_cell (k:=2) len_Pl_cells h (by decide),own_cell (k:=3) len_Pl_cells h (by decide)⟩
theorem len_Cpx_cells:∀ x,(Cpx.cells x).length=1:=fun _=>rfl
theorem nors_Cpx_cells (x:Cpx):AV.nors (Cpx.cells x)=true:=by simp only [Cpx.cells,AV.nors,AV.nor,Bool.and_self,encnors_Pl_cells]
theorem one_Cpx_cells (x:Cpx):(Cpx.cells x).all AV.one=true:=by simp only [Cpx.cells,List.all_cons,List.all_nil,AV.one,Bool.and_self]
theorem flat_Cpx_cells (x:Cpx):(Cpx.cells x).all AV.flat1=true:=by simp only [Cpx.cells,List.all_cons,List.all_nil,AV.flat1,Bool.and_self]
theorem encnors_Cpx_cells (l:List Cpx):AV.nors (enc Cpx.cells l)=true:=enc_nors nors_Cpx_cells l
theorem enclen_Cpx_cells (l:List Cpx):(enc Cpx.cells l).length=l.length*1:=enc_len len_Cpx_cells l
theorem encone_Cpx_cells (l:List Cpx):(enc Cpx.cells l).all AV.one=true:=enc_all one_Cpx_cells l
theorem encall_Cpx_cells (l:List Cpx):(enc Cpx.cells l).all AV.flat1=true:=enc_all flat_Cpx_cells l
theorem flatt_Cpx_cells (x:Cpx):(Cpx.cells x).all AV.flat2=true:=by simp only [Cpx.cells,List.all_cons,List.all_nil,AV.flat2,Bool.and_self]
theorem encflat_Cpx_cells {q:Bool}{b:Nat}{h:AHeap}{f:Nat}(l:List Cpx):frzs (frz q b h (f+1)) (enc Cpx.cells l)=some (enc Cpx.cells l):=frzs_flat2 (enc_all flatt_Cpx_cells l)
theorem enctake_Cpx_cells (l:List Cpx):(enc Cpx.cells l).take l.length=enc Cpx.cells l:=by simpa only [Nat.mul_one] using enc_take len_Cpx_cells l
theorem encids_Cpx_cells {b:Nat}{l:List Nat}(m:List Cpx):AV.idss b (enc Cpx.cells m) l=l:=idss_nors (encnors_Cpx_cells m)
theorem encren_Cpx_cells {b c:Nat}{l:List Nat}(m:List Cpx):AV.rens b c l (enc Cpx.cells m)=some (enc Cpx.cells m):=rens_id (encnors_Cpx_cells m)
theorem encold_Cpx_cells {b:Nat}(m:List Cpx):AV.olds b (enc Cpx.cells m)=true:=olds_nors (encnors_Cpx_cells m)
theorem encpart_Cpx_cells (l:List Cpx)(k:Nat):(enc Cpx.cells l).take k=enc Cpx.cells (l.take k):=by simpa only [Nat.mul_one] using enc_takew len_Cpx_cells l k
theorem encdrop_Cpx_cells (l:List Cpx)(k:Nat):(enc Cpx.cells l).drop k=enc Cpx.cells (l.drop k):=by simpa only [Nat.mul_one] using enc_dropw len_Cpx_cells l k
theorem pk_Cpx_cells {l:List Cpx}{j:Int}{x:Cpx}(h:idx l j=some x):idx l j=some x∧inb j l.length=true∧apart_ ((enc Cpx.cells l).drop j.toNat) 0 none=(Cpx.cells x)[0]?∧apart_ (enc Cpx.cells l) j.toNat none=(Cpx.cells x)[0]?:=⟨h,idx_inb h,vp_one len_Cpx_cells h,own_one len_Cpx_cells h⟩
def S83.cs (p:S83):List AV:=[.f .f64 (p.f_Re).toNat,.f .f64 (p.f_Im).toNat]
theorem len_S83_cs:∀ x,(S83.cs x).length=2:=fun _=>rfl
theorem nors_S83_cs (x:S83):AV.nors (S83.cs x)=true:=by simp only [S83.cs,AV.nors,AV.nor,Bool.and_self,encnors_Pl_cells,encnors_Cpx_cells]
theorem one_S83_cs (x:S83):(S83.cs x).all AV.one=true:=by simp only [S83.cs,List.all_cons,List.all_nil,AV.one,Bool.and_self]
theorem flat_S83_cs (x:S83):(S83.cs x).all AV.flat1=true:=by simp only [S83.cs,List.all_cons,List.all_nil,AV.flat1,Bool.and_self]
theorem encnors_S83_cs (l:List S83):AV.nors (enc S83.cs l)=true:=enc_nors nors_S83_cs l
theorem enclen_S83_cs (l:List S83):(enc S83.cs l).length=l.length*2:=enc_len len_S83_cs l
theorem encone_S83_cs (l:List S83):(enc S83.cs l).all AV.one=true:=enc_all one_S83_cs l
theorem encall_S83_cs (l:List S83):(enc S83.cs l).all AV.flat1=true:=enc_all flat_S83_cs l
theorem flatt_S83_cs (x:S83):(S83.cs x).all AV.flat2=true:=by simp only [S83.cs,List.all_cons,List.all_nil,AV.flat2,Bool.and_self]
theorem encflat_S83_cs {q:Bool}{b:Nat}{h:AHeap}{f:Nat}(l:List S83):frzs (frz q b h (f+1)) (enc S83.cs l)=some (enc S83.cs l):=frzs_flat2 (enc_all flatt_S83_cs l)
theorem enctake_S83_cs (l:List S83):(enc S83.cs l).take (l.length*2)=enc S83.cs l:=by simpa only [Nat.mul_one] using enc_take len_S83_cs l
theorem encids_S83_cs {b:Nat}{l:List Nat}(m:List S83):AV.idss b (enc S83.cs m) l=l:=idss_nors (encnors_S83_cs m)
theorem encren_S83_cs {b c:Nat}{l:List Nat}(m:List S83):AV.rens b c l (enc S83.cs m)=some (enc S83.cs m):=rens_id (encnors_S83_cs m)
theorem encold_S83_cs {b:Nat}(m:List S83):AV.olds b (enc S83.cs m)=true:=olds_nors (encnors_S83_cs m)
theorem encpart_S83_cs (l:List S83)(k:Nat):(enc S83.cs l).take (k*2)=enc S83.cs (l.take k):=by simpa only [Nat.mul_one] using enc_takew len_S83_cs l k
theorem encdrop_S83_cs (l:List S83)(k:Nat):(enc S83.cs l).drop (k*2)=enc S83.cs (l.drop k):=by simpa only [Nat.mul_one] using enc_dropw len_S83_cs l k
theorem pk_S83_cs {l:List S83}{j:Int}{x:S83}(h:idx l j=some x):idx l j=some x∧inb j l.length=true∧apart_ ((enc S83.cs l).drop (j.toNat*2)) 0 (some 2)=some (.agg (S83.cs x))∧apart_ ((enc S83.cs l).drop (j.toNat*2)) 0 none=(S83.cs x)[0]?∧apart_ (((enc S83.cs l).drop (j.toNat*2)).drop 1) 0 none=(S83.cs x)[1]?∧apart_ (enc S83.cs l) (j.toNat*2) (some 2)=some (.agg (S83.cs x))∧apart_ (enc S83.cs l) (j.toNat*2) none=(S83.cs x)[0]?∧apart_ (enc S83.cs l) (j.toNat*2+1) none=(S83.cs x)[1]?:=⟨h,idx_inb h,vp_row len_S83_cs h,vp_cell0 len_S83_cs h (by decide),vp_cell (k:=1) len_S83_cs h (by decide),own_row len_S83_cs h,own_cell0 len_S83_cs h (by decide),own_cell (k:=1) len_S83_cs h (by decide)⟩
def c5 (x:Int):List AV:=[.i .u8 (x)]
theorem len_c5:∀ x,(c5 x).length=1:=fun _=>rfl
theorem nors_c5 (x:Int):AV.nors (c5 x)=true:=by simp only [c5,AV.nors,AV.nor,Bool.and_self,encnors_Pl_cells,encnors_Cpx_cells,encnors_S83_cs]
theorem one_c5 (x:Int):(c5 x).all AV.one=true:=by simp only [c5,List.all_cons,List.all_nil,AV.one,Bool.and_self]
theorem flat_c5 (x:Int):(c5 x).all AV.flat1=true:=by simp only [c5,List.all_cons,List.all_nil,AV.flat1,Bool.and_self]
theorem encnors_c5 (l:List Int):AV.nors (enc c5 l)=true:=enc_nors nors_c5 l
theorem enclen_c5 (l:List Int):(enc c5 l).length=l.length*1:=enc_len len_c5 l
theorem encone_c5 (l:List Int):(enc c5 l).all AV.one=true:=enc_all one_c5 l
theorem encall_c5 (l:List Int):(enc c5 l).all AV.flat1=true:=enc_all flat_c5 l
theorem flatt_c5 (x:Int):(c5 x).all AV.flat2=true:=by simp only [c5,List.all_cons,List.all_nil,AV.flat2,Bool.and_self]
theorem encflat_c5 {q:Bool}{b:Nat}{h:AHeap}{f:Nat}(l:List Int):frzs (frz q b h (f+1)) (enc c5 l)=some (enc c5 l):=frzs_flat2 (enc_all flatt_c5 l)
theorem enctake_c5 (l:List Int):(enc c5 l).take l.length=enc c5 l:=by simpa only [Nat.mul_one] using enc_take len_c5 l
theorem encids_c5 {b:Nat}{l:List Nat}(m:List Int):AV.idss b (enc c5 m) l=l:=idss_nors (encnors_c5 m)
theorem encren_c5 {b c:Nat}{l:List Nat}(m:List Int):AV.rens b c l (enc c5 m)=some (enc c5 m):=rens_id (encnors_c5 m)
theorem encold_c5 {b:Nat}(m:List Int):AV.olds b (enc c5 m)=true:=olds_nors (encnors_c5 m)
theorem encpart_c5 (l:List Int)(k:Nat):(enc c5 l).take k=enc c5 (l.take k):=by simpa only [Nat.mul_one] using enc_takew len_c5 l k
theorem encdrop_c5 (l:List Int)(k:Nat):(enc c5 l).drop k=enc c5 (l.drop k):=by simpa only [Nat.mul_one] using enc_dropw len_c5 l k
theorem pk_c5 {l:List Int}{j:Int}{x:Int}(h:idx l j=some x):idx l j=some x∧inb j l.length=true∧apart_ ((enc c5 l).drop j.toNat) 0 none=(c5 x)[0]?∧apart_ (enc c5 l) j.toNat none=(c5 x)[0]?:=⟨h,idx_inb h,vp_one len_c5 h,own_one len_c5 h⟩
theorem ixo {α:Type}{l:List α}{j:Int}{p:α→Prop}(h:∀ {x},idx l j=some x→p x):(idx l j=none∧inb j l.length=false)∨∃ x,p x:=(Option.eq_none_or_eq_some (idx l j)).elim (fun e=>.inl (pkn e)) (fun ⟨x,e⟩=>.inr ⟨x,h e⟩)
theorem dex {k D:Nat}(h:k≤D):∃ E,D=E+k:=⟨D-k,by omega⟩
def EVE:=PLift.up <| And.intro @oM.eq_1 <| And.intro @oL.eq_1 <| And.intro @oJ.eq_1 <| And.intro @oF.eq_1 <| And.intro @oS.eq_1 <| And.intro @oA.eq_1 <| And.intro @oP.eq_1 <| And.intro @oE.eq_1 <| And.intro @oB.eq_1 <| And.intro @oQ.eq_1 <| And.intro @oN.eq_1 <| And.intro @oT.eq_1 <| And.intro @oU.eq_1 <| And.intro @oG.eq_1 <| And.intro @oI.eq_1 <| And.intro @oC.eq_1 <| And.intro @oX.eq_1 <| And.intro @oY.eq_1 <| And.intro @gf.eq_1 <| And.intro @gt.eq_1 <| And.intro @Pl.cells.eq_1 (And.intro @encnors_Pl_cells (And.intro @enclen_Pl_cells (And.intro @encone_Pl_cells (And.intro @encall_Pl_cells (And.intro @encflat_Pl_cells (And.intro @enctake_Pl_cells (And.intro @encids_Pl_cells (And.intro @encren_Pl_cells (And.intro @encold_Pl_cells (And.intro @encpart_Pl_cells (And.intro @Cpx.cells.eq_1 (And.intro @encnors_Cpx_cells (And.intro @enclen_Cpx_cells (And.intro @encone_Cpx_cells (And.intro @encall_Cpx_cells (And.intro @encflat_Cpx_cells (And.intro @enctake_Cpx_cells (And.intro @encids_Cpx_cells (And.intro @encren_Cpx_cells (And.intro @encold_Cpx_cells (And.intro @encpart_Cpx_cells (And.intro @S83.cs.eq_1 (And.intro @encnors_S83_cs (And.intro @enclen_S83_cs (And.intro @encone_S83_cs (And.intro @encall_S83_cs (And.intro @encflat_S83_cs (And.intro @enctake_S83_cs (And.intro @encids_S83_cs (And.intro @encren_S83_cs (And.intro @encold_S83_cs (And.intro @encpart_S83_cs (And.intro @c5.eq_1 (And.intro @encnors_c5 (And.intro @enclen_c5 (And.intro @encone_c5 (And.intro @encall_c5 (And.intro @encflat_c5 (And.intro @enctake_c5 (And.intro @encids_c5 (And.intro @encren_c5 (And.intro @encold_c5 @encpart_c5))))))))))))))))))))))))))))))))))))))))))
def EVA:=PLift.up <| And.intro EV0.down <| And.intro EV1.down <| And.intro EV2.down <| And.intro EV3.down <| And.intro EV4.down <| And.intro EV5.down <| And.intro EV6.down <| And.intro EV7.down <| And.intro EVK.down <| And.intro EVF.down <| And.intro EVN.down <| And.intro EVE.down @kont_ret
theorem eref14_Copy (D:Nat)(hD:0≤D)(F:Nat)(a0_N:Int)(a0_Stab a0_Destab:List Pl)(q:Bool):evW 3 (OV F D) F a6 (some [.agg [.i .i64 a0_N,.vs a0_Stab.length .unk (enc Pl.cells a0_Stab),.vs a0_Destab.length .unk (enc Pl.cells a0_Destab)]]) q G0 =
 match Pref14_Copy a0_N a0_Stab a0_Destab with|none=>none|some (r0,r1,r2)=>some (.agg [.i .i64 r0,.vs r1.length .unk (enc Pl.cells r1),.vs r2.length .unk (enc Pl.cells r2)],none):=by
 rw [evW_some,G0]
 simp only [Pref14_Copy]
 by_cases h1:a0_Stab=[]
 replace h1:=eq_true h1
 by_cases h2:a0_Destab=[]
 replace h2:=eq_true h2
 rotate_left
 by_cases h3:a0_Destab.length*32≤140737488355328
 rotate_left
 rotate_left
 by_cases h4:a0_Stab.length*32≤140737488355328
 by_cases h5:a0_Destab=[]
 replace h5:=eq_true h5
 rotate_left
 by_cases h6:a0_Destab.length*32≤140737488355328
 all_goals simp -implicitDefEqProofs only [*,a6,EVA.down,ne_eq,seval]
theorem vref14_Copy {D F n:Nat}{args:List AV}{h:AHeap}:OV F (D+1) 6 args h n (n+1)=evW 3 (OV F D) F a6 (frzs (frz true 0 (bif AV.nors args then [] else h) 8) args) (AV.nors args) (hglb h 3):=evV_frozen rfl
theorem epauli_Check (D:Nat)(hD:0≤D)(F:Nat)(a0_N:Int)(a0_X a0_Z:BitVec 64)(a0_Phase:Int)(q:Bool):evW 3 (OV F D) F a103 (some [.agg [.i .i64 a0_N,.i .u64 (U a0_X),.i .u64 (U a0_Z),.i .i64 a0_Phase]]) q G0 =
 some (.i .i64 ((Ppauli_Check a0_N a0_X a0_Z a0_Phase)),none):=by
 rw [evW_some,G0]
 simp only [Ppauli_Check]
 by_cases h1:a0_N<0
 rotate_left
 by_cases h2:a0_N>64
 rotate_left
 by_cases h3:a0_Phase<0
 rotate_left
 by_cases h4:a0_Phase>3
 rotate_left
 by_cases h5:a0_N<64
 by_cases h6:((a0_X ||| a0_Z) >>> a0_N.toNat)=0#64
 replace h6:=eq_true h6
 all_goals simp -implicitDefEqProofs only [*,a103,EVA.down,ne_eq,seval]
theorem vpauli_Check {D F n:Nat}{args:List AV}{h:AHeap}:OV F (D+1) 103 args h n (n+1)=evW 3 (OV F D) F a103 (frzs (frz true 0 (bif AV.nors args then [] else h) 8) args) (AV.nors args) (hglb h 3):=evV_frozen rfl
theorem epauli_right (D:Nat)(hD:1≤D)(F:Nat)(a0_N:Int)(a0_X a0_Z:BitVec 64)(a0_Phase:Int)(q:Bool):evW 3 (OV F D) F a71 (some [.agg [.i .i64 a0_N,.i .u64 (U a0_X),.i .u64 (U a0_Z),.i .i64 a0_Phase]]) q G0 =
 some (.b ((Ppauli_right a0_N a0_X a0_Z a0_Phase)),none):=by
 obtain ⟨D,rfl⟩:=dex hD
 have cpauli_Check0:=epauli_Check (D) (by omega) F
 rw [evW_some,G0]
 skip
 all_goals simp -implicitDefEqProofs only [*,a71,Ppauli_right,vpauli_Check,EVA.down,ne_eq,seval]
theorem vpauli_right {D F n:Nat}{args:List AV}{h:AHeap}:OV F (D+1) 71 args h n (n+1)=evW 3 (OV F D) F a71 (frzs (frz true 0 (bif AV.nors args then [] else h) 8) args) (AV.nors args) (hglb h 3):=evV_frozen rfl
theorem epauli_Hermitian (D:Nat)(hD:2≤D)(F:Nat)(a0_N:Int)(a0_X a0_Z:BitVec 64)(a0_Phase:Int)(q:Bool):evW 3 (OV F D) F a68 (some [.agg [.i .i64 a0_N,.i .u64 (U a0_X),.i .u64 (U a0_Z),.i .i64 a0_Phase]]) q G0 =
 some (.b ((Ppauli_Hermitian a0_N a0_X a0_Z a0_Phase)),none):=by
 obtain ⟨D,rfl⟩:=dex hD
 have cpauli_right0:=epauli_right (D+1) (by omega) F
 rw [evW_some,G0]
 simp only [Ppauli_Hermitian]
 rcases h1:((Ppauli_right a0_N a0_X a0_Z a0_Phase)) with _|_
 all_goals simp -implicitDefEqProofs only [*,a68,vpauli_right,EVA.down,ne_eq,seval]
theorem vpauli_Hermitian {D F n:Nat}{args:List AV}{h:AHeap}:OV F (D+1) 68 args h n (n+1)=evW 3 (OV F D) F a68 (frzs (frz true 0 (bif AV.nors args then [] else h) 8) args) (AV.nors args) (hglb h 3):=evV_frozen rfl
theorem ltableau_CheckL0 (D:Nat)(hD:3≤D)(F:Nat)(v0 v1 v2 v4:Int)(v5 v6:List Pl)(v7:Int)(v8 v9:BitVec 64)(v10 v11:Int)(v12 v13:BitVec 64)(v14:Int)(K:AE→AS→Option Res):∀ (f:Nat) (v3:Int) (s:AS),s.keepG s.n0 [1,33,34,47,48,49] [1]=some ⟨[(1,.lp 1 0),(33,.i .i64 v0),(34,.i .i64 v1),(47,.sl (some (3,0)) 2 (.ex (2))),(48,.i .i64 v2),(49,.i .i64 v3)],[(1,[.i .i64 v4,.vs v5.length .unk (enc Pl.cells v5),.vs v6.length .unk (enc Pl.cells v6)])],[(3,⟨true,false,71,4,[.i .i64 v7,.i .u64 (U v8),.i .u64 (U v9),.i .i64 v10,.i .i64 v11,.i .u64 (U v12),.i .u64 (U v13),.i .i64 v14]⟩),(1,tab64)],4,3⟩→
 evLoop (evC (OV F D) 3 F a22L0) f s K=match Ptableau_CheckL0 v0 v1 v2 v4 v5 v6 v7 v8 v9 v10 v11 v12 v13 v14 f v3 with|none=>none|some (.inl _)=>K .ret ⟨[(2,.i .i64 (140))],[],[(1,tab64)],3,3⟩|some (.inr _)=>K (.ex 2) ⟨[(1,.lp 1 0),(33,.i .i64 v0),(34,.i .i64 v1)],[(1,[.i .i64 v4,.vs v5.length .unk (enc Pl.cells v5),.vs v6.length .unk (enc Pl.cells v6)])],[(1,tab64)],3,3⟩:=by
 obtain ⟨D,rfl⟩:=dex hD
 have cpauli_Hermitian0:=epauli_Hermitian (D+2) (by omega) F
 intro f
 induction f with
 |zero=>intro v3 s hs;simp only [evLoop,Ptableau_CheckL0]
 |succ f ih=>
 intro v3 s hs
 obtain ⟨k0,hk,hn,he,hr⟩:=@lk_all (OV F (D+3)) 3 F a22L0 f K
 rw [loop_succ,hk,a22L0,runC_cutg,hs]
 clear hs
 simp only [Ptableau_CheckL0]
 clear hk
 by_cases h1:v3<v2
 by_cases h2:v3=0
 replace h2:=eq_true h2
 have h3:inb v3 2=true:=by rw [(of_eq_true h2)];decide
 have h4:Int.toNat v3=0:=by rw [(of_eq_true h2)];rfl
 by_cases h5:v7=v4
 replace h5:=eq_true h5
 rcases h6:((Ppauli_Hermitian v7 v8 v9 v10)) with _|_
 rotate_left
 rotate_left
 rotate_left
 by_cases h7:v3=1
 replace h7:=eq_true h7
 have h8:inb v3 2=true:=by rw [(of_eq_true h7)];decide
 have h9:Int.toNat v3=1:=by rw [(of_eq_true h7)];rfl
 by_cases h10:v11=v4
 replace h10:=eq_true h10
 rcases h11:((Ppauli_Hermitian v11 v12 v13 v14)) with _|_
 rotate_left
 rotate_left
 rotate_left
 have h12:inb v3 2=false:=by simp only [inb,Bool.and_eq_false_iff,decide_eq_false_iff_not];omega
 all_goals simp -implicitDefEqProofs only [*,-ih,vpauli_Hermitian,EVA.down,ne_eq,seval]
 all_goals exact ih _ _ (by simp only [*,-ih,vpauli_Hermitian,EVA.down,ne_eq,seval])
theorem ltableau_CheckL1 (D:Nat)(hD:3≤D)(F:Nat)(v0 v2:Int)(v3 v4:List Pl)(K:AE→AS→Option Res):∀ (f:Nat) (v1:Int) (s:AS),s.keepG s.n0 [1,33,34] [1]=some ⟨[(1,.lp 1 0),(33,.i .i64 v0),(34,.i .i64 v1)],[(1,[.i .i64 v2,.vs v3.length .unk (enc Pl.cells v3),.vs v4.length .unk (enc Pl.cells v4)])],[(1,tab64)],3,3⟩→
 evLoop (evC (OV F D) 3 F a22L1) f s K=match Ptableau_CheckL1 F v0 v2 v3 v4 f v1 with|none=>none|some (.inl _)=>K .ret ⟨[(2,.i .i64 (140))],[],[(1,tab64)],3,3⟩|some (.inr _)=>K (.ex 0) ⟨[(1,.lp 1 0)],[(1,[.i .i64 v2,.vs v3.length .unk (enc Pl.cells v3),.vs v4.length .unk (enc Pl.cells v4)])],[(1,tab64)],3,3⟩:=by
 obtain ⟨D,rfl⟩:=dex hD
 intro f
 induction f with
 |zero=>intro v1 s hs;simp only [evLoop,Ptableau_CheckL1]
 |succ f ih=>
 intro v1 s hs
 obtain ⟨k0,hk,hn,he,hr⟩:=@lk_all (OV F (D+3)) 3 F a22L1 f K
 rw [loop_succ,hk,a22L1,runC_cutg,hs]
 clear hs
 simp only [Ptableau_CheckL1]
 clear hk
 by_cases h1:v1<v0
 rcases ixo (@pk_Pl_cells v3 v1) with h2|⟨x1,h2⟩
 rotate_left
 rcases ixo (@pk_Pl_cells v4 v1) with h3|⟨x2,h3⟩
 rotate_left
 simp -implicitDefEqProofs only [*,-ih,runC_loop,EVA.down,ne_eq,seval]
 rw [ltableau_CheckL0 (D+3) (by omega) F v0 v1 2 v2 v3 v4 x1.N x1.X x1.Z x1.Ph x2.N x2.X x2.Z x2.Ph _ F 0 _ (by simp only [*,-ih,EVA.down,ne_eq,seval];try rfl)]
 rcases h4:(Ptableau_CheckL0 v0 v1 2 v2 v3 v4 x1.N x1.X x1.Z x1.Ph x2.N x2.X x2.Z x2.Ph F 0) with _|(_|_)
 all_goals simp -implicitDefEqProofs only [*,-ih,EVA.down,ne_eq,seval]
 all_goals exact ih _ _ (by simp only [*,-ih,EVA.down,ne_eq,seval])
theorem ebits_OnesCount64 (D:Nat)(hD:0≤D)(F:Nat)(a0:BitVec 64)(q:Bool):evW 3 (OV F D) F a72 (some [.i .u64 (U a0)]) q G0 =
 some (.i .i64 ((Pbits_OnesCount64 a0)),none):=by
 have u2:AV.i .u64 2=.i .u64 (U 2#64):=id rfl
 have u4:AV.i .u64 4=.i .u64 (U 4#64):=id rfl
 have u8:AV.i .u64 8=.i .u64 (U 8#64):=id rfl
 have u16:AV.i .u64 16=.i .u64 (U 16#64):=id rfl
 have u32:AV.i .u64 32=.i .u64 (U 32#64):=id rfl
 have u1085102592571150095:AV.i .u64 1085102592571150095=.i .u64 (U 1085102592571150095#64):=id rfl
 have u3689348814741910323:AV.i .u64 3689348814741910323=.i .u64 (U 3689348814741910323#64):=id rfl
 have u6148914691236517205:AV.i .u64 6148914691236517205=.i .u64 (U 6148914691236517205#64):=id rfl
 rw [evW_some,G0]
 skip
 all_goals simp -implicitDefEqProofs only [*,a72,Pbits_OnesCount64,EVA.down,ne_eq,seval]
theorem vbits_OnesCount64 {D F n:Nat}{args:List AV}{h:AHeap}:OV F (D+1) 72 args h n (n+1)=evW 3 (OV F D) F a72 (frzs (frz true 0 (bif AV.nors args then [] else h) 8) args) (AV.nors args) (hglb h 3):=evV_frozen rfl
theorem etableau_commute (D:Nat)(hD:1≤D)(F:Nat)(a0_N:Int)(a0_X a0_Z:BitVec 64)(a0_Phase a1_N:Int)(a1_X a1_Z:BitVec 64)(a1_Phase:Int)(q:Bool):evW 3 (OV F D) F a69 (some [.agg [.i .i64 a0_N,.i .u64 (U a0_X),.i .u64 (U a0_Z),.i .i64 a0_Phase],.agg [.i .i64 a1_N,.i .u64 (U a1_X),.i .u64 (U a1_Z),.i .i64 a1_Phase]]) q G0 =
 some (.b ((Ptableau_commute a0_N a0_X a0_Z a0_Phase a1_N a1_X a1_Z a1_Phase)),none):=by
 obtain ⟨D,rfl⟩:=dex hD
 have cbits_OnesCount640:=ebits_OnesCount64 (D) (by omega) F
 rw [evW_some,G0]
 skip
 all_goals simp -implicitDefEqProofs only [*,a69,Ptableau_commute,vbits_OnesCount64,EVA.down,ne_eq,seval]
theorem vtableau_commute {D F n:Nat}{args:List AV}{h:AHeap}:OV F (D+1) 69 args h n (n+1)=evW 3 (OV F D) F a69 (frzs (frz true 0 (bif AV.nors args then [] else h) 8) args) (AV.nors args) (hglb h 3):=evV_frozen rfl
theorem ltableau_CheckL2 (D:Nat)(hD:2≤D)(F:Nat)(v0 v1 v2 v3 v5:Int)(v6 v7:List Pl)(K:AE→AS→Option Res):∀ (f:Nat) (v4:Int) (s:AS),s.keepG s.n0 [1,6,66,67,71,72] [1]=some ⟨[(1,.lp 1 0),(6,.i .i64 v0),(66,.i .i64 v1),(67,.i .i64 v2),(71,.i .i64 v3),(72,.i .i64 v4)],[(1,[.i .i64 v5,.vs v6.length .unk (enc Pl.cells v6),.vs v7.length .unk (enc Pl.cells v7)])],[(1,tab64)],3,3⟩→
 evLoop (evC (OV F D) 3 F a22L2) f s K=match Ptableau_CheckL2 v0 v1 v2 v3 v5 v6 v7 f v4 with|none=>none|some (.inl _)=>K .ret ⟨[(2,.i .i64 (140))],[],[(1,tab64)],3,3⟩|some (.inr _)=>K (.ex 6) ⟨[(1,.lp 1 0),(66,.i .i64 v1),(67,.i .i64 v2)],[(1,[.i .i64 v5,.vs v6.length .unk (enc Pl.cells v6),.vs v7.length .unk (enc Pl.cells v7)])],[(1,tab64)],3,3⟩:=by
 obtain ⟨D,rfl⟩:=dex hD
 have ctableau_commute0:=etableau_commute (D+1) (by omega) F
 intro f
 induction f with
 |zero=>intro v4 s hs;simp only [evLoop,Ptableau_CheckL2]
 |succ f ih=>
 intro v4 s hs
 obtain ⟨k0,hk,hn,he,hr⟩:=@lk_all (OV F (D+2)) 3 F a22L2 f K
 rw [loop_succ,hk,a22L2,runC_cutg,hs]
 clear hs
 simp only [Ptableau_CheckL2]
 clear hk
 by_cases h1:v4<v3
 rcases ixo (@pk_Pl_cells v6 v0) with h2|⟨x1,h2⟩
 rotate_left
 rcases ixo (@pk_Pl_cells v6 v4) with h3|⟨x2,h3⟩
 rotate_left
 rcases h4:((Ptableau_commute x1.N x1.X x1.Z x1.Ph x2.N x2.X x2.Z x2.Ph)) with _|_
 rotate_left
 rcases ixo (@pk_Pl_cells v7 v0) with h5|⟨x3,h5⟩
 rotate_left
 rcases ixo (@pk_Pl_cells v7 v4) with h6|⟨x4,h6⟩
 rotate_left
 rcases h7:((Ptableau_commute x3.N x3.X x3.Z x3.Ph x4.N x4.X x4.Z x4.Ph)) with _|_
 rotate_left
 by_cases h8:v0=v4
 replace h8:=eq_true h8
 rcases h9:((Ptableau_commute x3.N x3.X x3.Z x3.Ph x2.N x2.X x2.Z x2.Ph)) with _|_
 rotate_left
 rotate_left
 rcases h10:((Ptableau_commute x3.N x3.X x3.Z x3.Ph x2.N x2.X x2.Z x2.Ph)) with _|_
 all_goals simp -implicitDefEqProofs only [*,-ih,vtableau_commute,EVA.down,ne_eq,seval]
 all_goals exact ih _ _ (by simp only [*,-ih,vtableau_commute,EVA.down,ne_eq,seval])
theorem ltableau_CheckL3 (D:Nat)(hD:2≤D)(F:Nat)(v0 v2:Int)(v3 v4:List Pl)(K:AE→AS→Option Res):∀ (f:Nat) (v1:Int) (s:AS),s.keepG s.n0 [1,66,67] [1]=some ⟨[(1,.lp 1 0),(66,.i .i64 v0),(67,.i .i64 v1)],[(1,[.i .i64 v2,.vs v3.length .unk (enc Pl.cells v3),.vs v4.length .unk (enc Pl.cells v4)])],[(1,tab64)],3,3⟩→
 evLoop (evC (OV F D) 3 F a22L3) f s K=match Ptableau_CheckL3 F v0 v2 v3 v4 f v1 with|none=>none|some (.inl _)=>K .ret ⟨[(2,.i .i64 (140))],[],[(1,tab64)],3,3⟩|some (.inr _)=>K (.ex 4) ⟨[],[],[(1,tab64)],3,3⟩:=by
 obtain ⟨D,rfl⟩:=dex hD
 intro f
 induction f with
 |zero=>intro v1 s hs;simp only [evLoop,Ptableau_CheckL3]
 |succ f ih=>
 intro v1 s hs
 obtain ⟨k0,hk,hn,he,hr⟩:=@lk_all (OV F (D+2)) 3 F a22L3 f K
 rw [loop_succ,hk,a22L3,runC_cutg,hs]
 clear hs
 simp only [Ptableau_CheckL3]
 clear hk
 by_cases h1:v1<v0
 simp -implicitDefEqProofs only [*,-ih,runC_loop,EVA.down,ne_eq,seval]
 rw [ltableau_CheckL2 (D+2) (by omega) F v1 v0 v1 v2 v2 v3 v4 _ F 0 _ (by simp only [*,-ih,EVA.down,ne_eq,seval];try rfl)]
 rcases h2:(Ptableau_CheckL2 v1 v0 v1 v2 v2 v3 v4 F 0) with _|(_|_)
 all_goals simp -implicitDefEqProofs only [*,-ih,EVA.down,ne_eq,seval]
 all_goals exact ih _ _ (by simp only [*,-ih,EVA.down,ne_eq,seval])
theorem etableau_Check (D:Nat)(hD:3≤D)(F:Nat)(a0_N:Int)(a0_Stab a0_Destab:List Pl)(q:Bool):evW 3 (OV F D) F a22 (some [.agg [.i .i64 a0_N,.vs a0_Stab.length .unk (enc Pl.cells a0_Stab),.vs a0_Destab.length .unk (enc Pl.cells a0_Destab)]]) q G0 =
 match Ptableau_Check F a0_N a0_Stab a0_Destab with|none=>none|some r0=>some (.i .i64 r0,none):=by
 obtain ⟨D,rfl⟩:=dex hD
 rw [evW_some,G0]
 simp only [Ptableau_Check]
 by_cases h1:a0_N<0
 rotate_left
 by_cases h2:a0_N>64
 rotate_left
 by_cases h3:(a0_Stab.length:Int)=a0_N
 replace h3:=eq_true h3
 by_cases h4:(a0_Destab.length:Int)=a0_N
 replace h4:=eq_true h4
 simp -implicitDefEqProofs only [*,a22,runC_loop,EVA.down,ne_eq,seval]
 rw [ltableau_CheckL1 (D+3) (by omega) F a0_N a0_N a0_Stab a0_Destab _ F 0 _ (by simp only [*,a22,EVA.down,ne_eq,seval];try rfl)]
 rcases h5:(Ptableau_CheckL1 F a0_N a0_N a0_Stab a0_Destab F 0) with _|(_|_)
 rotate_left
 rotate_left
 simp -implicitDefEqProofs only [*,a22,runC_loop,EVA.down,ne_eq,seval]
 rw [ltableau_CheckL3 (D+3) (by omega) F a0_N a0_N a0_Stab a0_Destab _ F 0 _ (by simp only [*,a22,EVA.down,ne_eq,seval];try rfl)]
 rcases h6:(Ptableau_CheckL3 F a0_N a0_N a0_Stab a0_Destab F 0) with _|(_|_)
 all_goals simp -implicitDefEqProofs only [*,a22,EVA.down,ne_eq,seval]
theorem vtableau_Check {D F n:Nat}{args:List AV}{h:AHeap}:OV F (D+1) 22 args h n (n+1)=evW 3 (OV F D) F a22 (frzs (frz true 0 (bif AV.nors args then [] else h) 8) args) (AV.nors args) (hglb h 3):=evV_frozen rfl
theorem estate_Basis (D:Nat)(hD:0≤D)(F:Nat)(a0 a1:Int)(q:Bool):evW 3 (OV F D) F a23 (some [.i .i64 a0,.i .i64 a1]) q G0 =
 match Pstate_Basis a0 a1 with|none=>none|some (r0,r1)=>some (.tup [.vs r0.length .unk (enc Cpx.cells r0),.i .i64 r1],none):=by
 have flc_0_0:AV.c .f64 0 0=.c .f64 (0#64).toNat (0#64).toNat:=id rfl
 have flc_4607182418800017408_0:AV.c .f64 4607182418800017408 0=.c .f64 (4607182418800017408#64).toNat (0#64).toNat:=id rfl
 rw [evW_some,G0]
 simp only [Pstate_Basis]
 by_cases h1:a0<0
 rotate_left
 by_cases h2:a0>12
 rotate_left
 by_cases h3:a1<0
 rotate_left
 by_cases h4:a1≥(IntKind.i64.wrap (1*2 ^ (min (a0).toNat 64)))
 rotate_left
 rcases h5:(mkOk 16 (IntKind.i64.wrap (1*2 ^ (min (a0).toNat 64))) (IntKind.i64.wrap (1*2 ^ (min (a0).toNat 64)))) with _|_
 rotate_left
 have h6:(List.replicate ((IntKind.i64.wrap (1*2 ^ (min (a0).toNat 64))).toNat) [.c .f64 (0#64).toNat (0#64).toNat]).flatten=enc Cpx.cells (List.replicate (IntKind.i64.wrap (1*2 ^ (min (a0).toNat 64))).toNat (⟨0#64,0#64⟩:Cpx)):=enc_repl Cpx.cells _ ((⟨0#64,0#64⟩:Cpx):Cpx)
 have h7:∀ i,AV.sl (some (i,0)) ((IntKind.i64.wrap (1*2 ^ (min (a0).toNat 64))).toNat) (.ex ((IntKind.i64.wrap (1*2 ^ (min (a0).toNat 64))).toNat))=AV.sl (some (i,0)) (List.replicate (IntKind.i64.wrap (1*2 ^ (min (a0).toNat 64))).toNat (⟨0#64,0#64⟩:Cpx)).length (.ex (List.replicate (IntKind.i64.wrap (1*2 ^ (min (a0).toNat 64))).toNat (⟨0#64,0#64⟩:Cpx)).length):=by intro i;simp only [List.length_replicate]
 rcases ixo (@pk_Cpx_cells (List.replicate (IntKind.i64.wrap (1*2 ^ (min (a0).toNat 64))).toNat (⟨0#64,0#64⟩:Cpx)) a1) with h8|⟨x1,h8⟩
 rotate_left
 have h9:a1.toNat+1≤(List.replicate (IntKind.i64.wrap (1*2 ^ (min (a0).toNat 64))).toNat (⟨0#64,0#64⟩:Cpx)).length:=by have:=(idx_some h8.1).2.1;omega
 have h10:splice (enc Cpx.cells (List.replicate (IntKind.i64.wrap (1*2 ^ (min (a0).toNat 64))).toNat (⟨0#64,0#64⟩:Cpx))) (a1.toNat) [.c .f64 (4607182418800017408#64).toNat (0#64).toNat]=enc Cpx.cells ((List.replicate (IntKind.i64.wrap (1*2 ^ (min (a0).toNat 64))).toNat (⟨0#64,0#64⟩:Cpx)).set a1.toNat (⟨4607182418800017408#64,0#64⟩:Cpx)):=put_one len_Cpx_cells h8.1 (⟨4607182418800017408#64,0#64⟩:Cpx)
 have h11:((List.replicate (IntKind.i64.wrap (1*2 ^ (min (a0).toNat 64))).toNat (⟨0#64,0#64⟩:Cpx)).set a1.toNat (⟨4607182418800017408#64,0#64⟩:Cpx)=[])=False:=set_ne (idx_some h8.1).2.2
 all_goals simp -implicitDefEqProofs only [*,a23,flc_0_0,flc_4607182418800017408_0,EVA.down,ne_eq,seval]
theorem vstate_Basis {D F n:Nat}{args:List AV}{h:AHeap}:OV F (D+1) 23 args h n (n+1)=evW 3 (OV F D) F a23 (frzs (frz true 0 (bif AV.nors args then [] else h) 8) args) (AV.nors args) (hglb h 3):=evV_frozen rfl
theorem estate_Basiso (D:Nat)(hD:0≤D)(F:Nat)(a0 a1:Int)(n:Nat):evX 3 (OV F D) F a23 (some [.i .i64 a0,.i .i64 a1]) true G0 n =
 match Pstate_Basis a0 a1 with|none=>none|some (r0,r1)=>(match ownE Cpx.cells 73 1 (.vs 0 .unk []) r0 n with|(w0,g0,n0)=>some (.tup [w0,.i .i64 r1],some (g0,n0))):=by
 have flc_0_0:AV.c .f64 0 0=.c .f64 (0#64).toNat (0#64).toNat:=id rfl
 have flc_4607182418800017408_0:AV.c .f64 4607182418800017408 0=.c .f64 (4607182418800017408#64).toNat (0#64).toNat:=id rfl
 rw [evX_some,G0]
 simp only [Pstate_Basis]
 by_cases h1:a0<0
 rotate_left
 by_cases h2:a0>12
 rotate_left
 by_cases h3:a1<0
 rotate_left
 by_cases h4:a1≥(IntKind.i64.wrap (1*2 ^ (min (a0).toNat 64)))
 rotate_left
 rcases h5:(mkOk 16 (IntKind.i64.wrap (1*2 ^ (min (a0).toNat 64))) (IntKind.i64.wrap (1*2 ^ (min (a0).toNat 64)))) with _|_
 rotate_left
 have h6:(List.replicate ((IntKind.i64.wrap (1*2 ^ (min (a0).toNat 64))).toNat) [.c .f64 (0#64).toNat (0#64).toNat]).flatten=enc Cpx.cells (List.replicate (IntKind.i64.wrap (1*2 ^ (min (a0).toNat 64))).toNat (⟨0#64,0#64⟩:Cpx)):=enc_repl Cpx.cells _ ((⟨0#64,0#64⟩:Cpx):Cpx)
 have h7:∀ i,AV.sl (some (i,0)) ((IntKind.i64.wrap (1*2 ^ (min (a0).toNat 64))).toNat) (.ex ((IntKind.i64.wrap (1*2 ^ (min (a0).toNat 64))).toNat))=AV.sl (some (i,0)) (List.replicate (IntKind.i64.wrap (1*2 ^ (min (a0).toNat 64))).toNat (⟨0#64,0#64⟩:Cpx)).length (.ex (List.replicate (IntKind.i64.wrap (1*2 ^ (min (a0).toNat 64))).toNat (⟨0#64,0#64⟩:Cpx)).length):=by intro i;simp only [List.length_replicate]
 rcases ixo (@pk_Cpx_cells (List.replicate (IntKind.i64.wrap (1*2 ^ (min (a0).toNat 64))).toNat (⟨0#64,0#64⟩:Cpx)) a1) with h8|⟨x1,h8⟩
 rotate_left
 have h9:a1.toNat+1≤(List.replicate (IntKind.i64.wrap (1*2 ^ (min (a0).toNat 64))).toNat (⟨0#64,0#64⟩:Cpx)).length:=by have:=(idx_some h8.1).2.1;omega
 have h10:splice (enc Cpx.cells (List.replicate (IntKind.i64.wrap (1*2 ^ (min (a0).toNat 64))).toNat (⟨0#64,0#64⟩:Cpx))) (a1.toNat) [.c .f64 (4607182418800017408#64).toNat (0#64).toNat]=enc Cpx.cells ((List.replicate (IntKind.i64.wrap (1*2 ^ (min (a0).toNat 64))).toNat (⟨0#64,0#64⟩:Cpx)).set a1.toNat (⟨4607182418800017408#64,0#64⟩:Cpx)):=put_one len_Cpx_cells h8.1 (⟨4607182418800017408#64,0#64⟩:Cpx)
 have h11:((List.replicate (IntKind.i64.wrap (1*2 ^ (min (a0).toNat 64))).toNat (⟨0#64,0#64⟩:Cpx)).set a1.toNat (⟨4607182418800017408#64,0#64⟩:Cpx)=[])=False:=set_ne (idx_some h8.1).2.2
 all_goals simp -implicitDefEqProofs only [*,a23,flc_0_0,flc_4607182418800017408_0,EVA.down,ne_eq,seval]
theorem vstate_Basiso {D F n:Nat}{args:List AV}{h:AHeap}:OV F (D+1) 23 args h n n=evX 3 (OV F D) F a23 (frzs (frz true 0 (bif AV.nors args then [] else h) 8) args) (AV.nors args) (hglb h 3) n:=evV_own rfl
theorem ebits_Len64 (D:Nat)(hD:0≤D)(F:Nat)(a0:BitVec 64)(q:Bool):evW 3 (OV F D) F a129 (some [.i .u64 (U a0)]) q G0 =
 match Pbits_Len64 a0 with|none=>none|some r0=>some (.i .i64 r0,none):=by
 have u8:AV.i .u64 8=.i .u64 (U 8#64):=id rfl
 have u16:AV.i .u64 16=.i .u64 (U 16#64):=id rfl
 have u32:AV.i .u64 32=.i .u64 (U 32#64):=id rfl
 have u256:AV.i .u64 256=.i .u64 (U 256#64):=id rfl
 have u65536:AV.i .u64 65536=.i .u64 (U 65536#64):=id rfl
 have u4294967296:AV.i .u64 4294967296=.i .u64 (U 4294967296#64):=id rfl
 rw [evW_some,G0]
 simp only [Pbits_Len64]
 by_cases h1:U a0≥U 4294967296#64
 by_cases h2:U (a0 >>> (32:Nat))≥U 65536#64
 by_cases h3:U ((a0 >>> (32:Nat)) >>> (16:Nat))≥U 256#64
 rcases h4:(bidx (⟨#[0,1,2,2,3,3,3,3,4,4,4,4,4,4,4,4,5,5,5,5,5,5,5,5,5,5,5,5,5,5,5,5,6,6,6,6,6,6,6,6,6,6,6,6,6,6,6,6,6,6,6,6,6,6,6,6,6,6,6,6,6,6,6,6,7,7,7,7,7,7,7,7,7,7,7,7,7,7,7,7,7,7,7,7,7,7,7,7,7,7,7,7,7,7,7,7,7,7,7,7,7,7,7,7,7,7,7,7,7,7,7,7,7,7,7,7,7,7,7,7,7,7,7,7,7,7,7,7,8,8,8,8,8,8,8,8,8,8,8,8,8,8,8,8,8,8,8,8,8,8,8,8,8,8,8,8,8,8,8,8,8,8,8,8,8,8,8,8,8,8,8,8,8,8,8,8,8,8,8,8,8,8,8,8,8,8,8,8,8,8,8,8,8,8,8,8,8,8,8,8,8,8,8,8,8,8,8,8,8,8,8,8,8,8,8,8,8,8,8,8,8,8,8,8,8,8,8,8,8,8,8,8,8,8,8,8,8,8,8,8,8,8,8,8,8,8,8,8,8,8,8,8,8,8,8,8]⟩:ByteArray) (IntKind.u8.wrap (U (((a0 >>> (32:Nat)) >>> (16:Nat)) >>> (8:Nat))))) with _|x1
 rotate_left
 rotate_left
 rcases h5:(bidx (⟨#[0,1,2,2,3,3,3,3,4,4,4,4,4,4,4,4,5,5,5,5,5,5,5,5,5,5,5,5,5,5,5,5,6,6,6,6,6,6,6,6,6,6,6,6,6,6,6,6,6,6,6,6,6,6,6,6,6,6,6,6,6,6,6,6,7,7,7,7,7,7,7,7,7,7,7,7,7,7,7,7,7,7,7,7,7,7,7,7,7,7,7,7,7,7,7,7,7,7,7,7,7,7,7,7,7,7,7,7,7,7,7,7,7,7,7,7,7,7,7,7,7,7,7,7,7,7,7,7,8,8,8,8,8,8,8,8,8,8,8,8,8,8,8,8,8,8,8,8,8,8,8,8,8,8,8,8,8,8,8,8,8,8,8,8,8,8,8,8,8,8,8,8,8,8,8,8,8,8,8,8,8,8,8,8,8,8,8,8,8,8,8,8,8,8,8,8,8,8,8,8,8,8,8,8,8,8,8,8,8,8,8,8,8,8,8,8,8,8,8,8,8,8,8,8,8,8,8,8,8,8,8,8,8,8,8,8,8,8,8,8,8,8,8,8,8,8,8,8,8,8,8,8,8,8,8,8]⟩:ByteArray) (IntKind.u8.wrap (U ((a0 >>> (32:Nat)) >>> (16:Nat))))) with _|x2
 rotate_left
 rotate_left
 by_cases h6:U (a0 >>> (32:Nat))≥U 256#64
 rcases h7:(bidx (⟨#[0,1,2,2,3,3,3,3,4,4,4,4,4,4,4,4,5,5,5,5,5,5,5,5,5,5,5,5,5,5,5,5,6,6,6,6,6,6,6,6,6,6,6,6,6,6,6,6,6,6,6,6,6,6,6,6,6,6,6,6,6,6,6,6,7,7,7,7,7,7,7,7,7,7,7,7,7,7,7,7,7,7,7,7,7,7,7,7,7,7,7,7,7,7,7,7,7,7,7,7,7,7,7,7,7,7,7,7,7,7,7,7,7,7,7,7,7,7,7,7,7,7,7,7,7,7,7,7,8,8,8,8,8,8,8,8,8,8,8,8,8,8,8,8,8,8,8,8,8,8,8,8,8,8,8,8,8,8,8,8,8,8,8,8,8,8,8,8,8,8,8,8,8,8,8,8,8,8,8,8,8,8,8,8,8,8,8,8,8,8,8,8,8,8,8,8,8,8,8,8,8,8,8,8,8,8,8,8,8,8,8,8,8,8,8,8,8,8,8,8,8,8,8,8,8,8,8,8,8,8,8,8,8,8,8,8,8,8,8,8,8,8,8,8,8,8,8,8,8,8,8,8,8,8,8,8]⟩:ByteArray) (IntKind.u8.wrap (U ((a0 >>> (32:Nat)) >>> (8:Nat))))) with _|x3
 rotate_left
 rotate_left
 rcases h8:(bidx (⟨#[0,1,2,2,3,3,3,3,4,4,4,4,4,4,4,4,5,5,5,5,5,5,5,5,5,5,5,5,5,5,5,5,6,6,6,6,6,6,6,6,6,6,6,6,6,6,6,6,6,6,6,6,6,6,6,6,6,6,6,6,6,6,6,6,7,7,7,7,7,7,7,7,7,7,7,7,7,7,7,7,7,7,7,7,7,7,7,7,7,7,7,7,7,7,7,7,7,7,7,7,7,7,7,7,7,7,7,7,7,7,7,7,7,7,7,7,7,7,7,7,7,7,7,7,7,7,7,7,8,8,8,8,8,8,8,8,8,8,8,8,8,8,8,8,8,8,8,8,8,8,8,8,8,8,8,8,8,8,8,8,8,8,8,8,8,8,8,8,8,8,8,8,8,8,8,8,8,8,8,8,8,8,8,8,8,8,8,8,8,8,8,8,8,8,8,8,8,8,8,8,8,8,8,8,8,8,8,8,8,8,8,8,8,8,8,8,8,8,8,8,8,8,8,8,8,8,8,8,8,8,8,8,8,8,8,8,8,8,8,8,8,8,8,8,8,8,8,8,8,8,8,8,8,8,8,8]⟩:ByteArray) (IntKind.u8.wrap (U (a0 >>> (32:Nat))))) with _|x4
 rotate_left
 rotate_left
 by_cases h9:U a0≥U 65536#64
 by_cases h10:U (a0 >>> (16:Nat))≥U 256#64
 rcases h11:(bidx (⟨#[0,1,2,2,3,3,3,3,4,4,4,4,4,4,4,4,5,5,5,5,5,5,5,5,5,5,5,5,5,5,5,5,6,6,6,6,6,6,6,6,6,6,6,6,6,6,6,6,6,6,6,6,6,6,6,6,6,6,6,6,6,6,6,6,7,7,7,7,7,7,7,7,7,7,7,7,7,7,7,7,7,7,7,7,7,7,7,7,7,7,7,7,7,7,7,7,7,7,7,7,7,7,7,7,7,7,7,7,7,7,7,7,7,7,7,7,7,7,7,7,7,7,7,7,7,7,7,7,8,8,8,8,8,8,8,8,8,8,8,8,8,8,8,8,8,8,8,8,8,8,8,8,8,8,8,8,8,8,8,8,8,8,8,8,8,8,8,8,8,8,8,8,8,8,8,8,8,8,8,8,8,8,8,8,8,8,8,8,8,8,8,8,8,8,8,8,8,8,8,8,8,8,8,8,8,8,8,8,8,8,8,8,8,8,8,8,8,8,8,8,8,8,8,8,8,8,8,8,8,8,8,8,8,8,8,8,8,8,8,8,8,8,8,8,8,8,8,8,8,8,8,8,8,8,8,8]⟩:ByteArray) (IntKind.u8.wrap (U ((a0 >>> (16:Nat)) >>> (8:Nat))))) with _|x5
 rotate_left
 rotate_left
 rcases h12:(bidx (⟨#[0,1,2,2,3,3,3,3,4,4,4,4,4,4,4,4,5,5,5,5,5,5,5,5,5,5,5,5,5,5,5,5,6,6,6,6,6,6,6,6,6,6,6,6,6,6,6,6,6,6,6,6,6,6,6,6,6,6,6,6,6,6,6,6,7,7,7,7,7,7,7,7,7,7,7,7,7,7,7,7,7,7,7,7,7,7,7,7,7,7,7,7,7,7,7,7,7,7,7,7,7,7,7,7,7,7,7,7,7,7,7,7,7,7,7,7,7,7,7,7,7,7,7,7,7,7,7,7,8,8,8,8,8,8,8,8,8,8,8,8,8,8,8,8,8,8,8,8,8,8,8,8,8,8,8,8,8,8,8,8,8,8,8,8,8,8,8,8,8,8,8,8,8,8,8,8,8,8,8,8,8,8,8,8,8,8,8,8,8,8,8,8,8,8,8,8,8,8,8,8,8,8,8,8,8,8,8,8,8,8,8,8,8,8,8,8,8,8,8,8,8,8,8,8,8,8,8,8,8,8,8,8,8,8,8,8,8,8,8,8,8,8,8,8,8,8,8,8,8,8,8,8,8,8,8,8]⟩:ByteArray) (IntKind.u8.wrap (U (a0 >>> (16:Nat))))) with _|x6
 rotate_left
 rotate_left
 by_cases h13:U a0≥U 256#64
 rcases h14:(bidx (⟨#[0,1,2,2,3,3,3,3,4,4,4,4,4,4,4,4,5,5,5,5,5,5,5,5,5,5,5,5,5,5,5,5,6,6,6,6,6,6,6,6,6,6,6,6,6,6,6,6,6,6,6,6,6,6,6,6,6,6,6,6,6,6,6,6,7,7,7,7,7,7,7,7,7,7,7,7,7,7,7,7,7,7,7,7,7,7,7,7,7,7,7,7,7,7,7,7,7,7,7,7,7,7,7,7,7,7,7,7,7,7,7,7,7,7,7,7,7,7,7,7,7,7,7,7,7,7,7,7,8,8,8,8,8,8,8,8,8,8,8,8,8,8,8,8,8,8,8,8,8,8,8,8,8,8,8,8,8,8,8,8,8,8,8,8,8,8,8,8,8,8,8,8,8,8,8,8,8,8,8,8,8,8,8,8,8,8,8,8,8,8,8,8,8,8,8,8,8,8,8,8,8,8,8,8,8,8,8,8,8,8,8,8,8,8,8,8,8,8,8,8,8,8,8,8,8,8,8,8,8,8,8,8,8,8,8,8,8,8,8,8,8,8,8,8,8,8,8,8,8,8,8,8,8,8,8,8]⟩:ByteArray) (IntKind.u8.wrap (U (a0 >>> (8:Nat))))) with _|x7
 rotate_left
 rotate_left
 rcases h15:(bidx (⟨#[0,1,2,2,3,3,3,3,4,4,4,4,4,4,4,4,5,5,5,5,5,5,5,5,5,5,5,5,5,5,5,5,6,6,6,6,6,6,6,6,6,6,6,6,6,6,6,6,6,6,6,6,6,6,6,6,6,6,6,6,6,6,6,6,7,7,7,7,7,7,7,7,7,7,7,7,7,7,7,7,7,7,7,7,7,7,7,7,7,7,7,7,7,7,7,7,7,7,7,7,7,7,7,7,7,7,7,7,7,7,7,7,7,7,7,7,7,7,7,7,7,7,7,7,7,7,7,7,8,8,8,8,8,8,8,8,8,8,8,8,8,8,8,8,8,8,8,8,8,8,8,8,8,8,8,8,8,8,8,8,8,8,8,8,8,8,8,8,8,8,8,8,8,8,8,8,8,8,8,8,8,8,8,8,8,8,8,8,8,8,8,8,8,8,8,8,8,8,8,8,8,8,8,8,8,8,8,8,8,8,8,8,8,8,8,8,8,8,8,8,8,8,8,8,8,8,8,8,8,8,8,8,8,8,8,8,8,8,8,8,8,8,8,8,8,8,8,8,8,8,8,8,8,8,8,8]⟩:ByteArray) (IntKind.u8.wrap (U a0))) with _|x8
 all_goals simp -implicitDefEqProofs only [*,a129,EVA.down,ne_eq,seval]
theorem vbits_Len64 {D F n:Nat}{args:List AV}{h:AHeap}:OV F (D+1) 129 args h n (n+1)=evW 3 (OV F D) F a129 (frzs (frz true 0 (bif AV.nors args then [] else h) 8) args) (AV.nors args) (hglb h 3):=evV_frozen rfl
theorem ebits_Len (D:Nat)(hD:1≤D)(F:Nat)(a0:BitVec 64)(q:Bool):evW 3 (OV F D) F a102 (some [.i .u64 (U a0)]) q G0 =
 match Pbits_Len a0 with|none=>none|some r0=>some (.i .i64 r0,none):=by
 obtain ⟨D,rfl⟩:=dex hD
 have cbits_Len640:=ebits_Len64 (D) (by omega) F
 rw [evW_some,G0]
 simp only [Pbits_Len]
 rcases h1:(Pbits_Len64 a0) with _|r1
 all_goals simp -implicitDefEqProofs only [*,a102,vbits_Len64,EVA.down,ne_eq,seval]
theorem vbits_Len {D F n:Nat}{args:List AV}{h:AHeap}:OV F (D+1) 102 args h n (n+1)=evW 3 (OV F D) F a102 (frzs (frz true 0 (bif AV.nors args then [] else h) 8) args) (AV.nors args) (hglb h 3):=evV_frozen rfl
theorem estate_Check (D:Nat)(hD:2≤D)(F:Nat)(a0:List Cpx)(q:Bool):evW 3 (OV F D) F a70 (some [.vs a0.length .unk (enc Cpx.cells a0)]) q G0 =
 match Pstate_Check a0 with|none=>none|some (r0,r1)=>some (.tup [.i .i64 r0,.i .i64 r1],none):=by
 obtain ⟨D,rfl⟩:=dex hD
 have cbits_Len0:=ebits_Len (D+1) (by omega) F
 rw [evW_some,G0]
 simp only [Pstate_Check]
 rcases h1:(Pbits_Len (BitVec.ofInt 64 (a0.length:Int))) with _|r1
 rotate_left
 by_cases h2:(IntKind.i64.wrap (r1-1))<0
 rotate_left
 by_cases h3:(IntKind.i64.wrap (r1-1))>12
 rotate_left
 by_cases h4:(a0.length:Int)=(IntKind.i64.wrap (1*2 ^ (min ((IntKind.i64.wrap (r1-1))).toNat 64)))
 replace h4:=eq_true h4
 all_goals simp -implicitDefEqProofs only [*,a70,vbits_Len,EVA.down,ne_eq,seval]
theorem vstate_Check {D F n:Nat}{args:List AV}{h:AHeap}:OV F (D+1) 70 args h n (n+1)=evW 3 (OV F D) F a70 (frzs (frz true 0 (bif AV.nors args then [] else h) 8) args) (AV.nors args) (hglb h 3):=evV_frozen rfl
theorem eplane_Neg (D:Nat)(hD:0≤D)(F:Nat)(a0_re a0_im:BitVec 64)(q:Bool):evW 3 (OV F D) F a106 (some [.c .f64 (a0_re).toNat (a0_im).toNat]) q G0 =
 match Pplane_Neg a0_re a0_im with|(r0,r1)=>some (.c .f64 (r0).toNat (r1).toNat,none):=by
 have flc_0_0:AV.c .f64 0 0=.c .f64 (0#64).toNat (0#64).toNat:=id rfl
 rw [evW_some,G0]
 skip
 all_goals simp -implicitDefEqProofs only [*,a106,Pplane_Neg,flc_0_0,EVA.down,ne_eq,seval]
theorem vplane_Neg {D F n:Nat}{args:List AV}{h:AHeap}:OV F (D+1) 106 args h n (n+1)=evW 3 (OV F D) F a106 (frzs (frz true 0 (bif AV.nors args then [] else h) 8) args) (AV.nors args) (hglb h 3):=evV_frozen rfl
theorem eplane_Turn (D:Nat)(hD:1≤D)(F:Nat)(a0_re a0_im:BitVec 64)(a1:Int)(q:Bool):evW 3 (OV F D) F a74 (some [.c .f64 (a0_re).toNat (a0_im).toNat,.i .i64 a1]) q G0 =
 match Pplane_Turn a0_re a0_im a1 with|(r0,r1)=>some (.c .f64 (r0).toNat (r1).toNat,none):=by
 obtain ⟨D,rfl⟩:=dex hD
 have flc_0_0:AV.c .f64 0 0=.c .f64 (0#64).toNat (0#64).toNat:=id rfl
 have cplane_Neg0:=eplane_Neg (D) (by omega) F
 rw [evW_some,G0]
 simp only [Pplane_Turn]
 by_cases h1:(bitop .and .i64 a1 3)=1
 replace h1:=eq_true h1
 rotate_left
 by_cases h2:(bitop .and .i64 a1 3)=2
 replace h2:=eq_true h2
 rcases h3:(Pplane_Neg a0_re a0_im) with ⟨r1,r2⟩
 rotate_left
 by_cases h4:(bitop .and .i64 a1 3)=3
 replace h4:=eq_true h4
 all_goals simp -implicitDefEqProofs only [*,a74,flc_0_0,vplane_Neg,EVA.down,ne_eq,seval]
theorem vplane_Turn {D F n:Nat}{args:List AV}{h:AHeap}:OV F (D+1) 74 args h n (n+1)=evW 3 (OV F D) F a74 (frzs (frz true 0 (bif AV.nors args then [] else h) 8) args) (AV.nors args) (hglb h 3):=evV_frozen rfl
theorem escalar_Plus (D:Nat)(hD:0≤D)(F:Nat)(a0:BitVec 64)(q:Bool):evW 3 (OV F D) F a105 (some [.f .f64 (a0).toNat]) q G0 =
 some (.f .f64 ((Pscalar_Plus a0)).toNat,none):=by
 have flf_0:AV.f .f64 0=.f .f64 (0#64).toNat:=id rfl
 have flx_0:∀ x,AV.c .f64 x 0=.c .f64 x (0#64).toNat:=fun _=>id rfl
 have fly_0:∀ x,AV.c .f64 0 x=.c .f64 (0#64).toNat x:=fun _=>id rfl
 rw [evW_some,G0]
 skip
 all_goals simp -implicitDefEqProofs only [*,a105,Pscalar_Plus,flf_0,flx_0,fly_0,EVA.down,ne_eq,seval]
theorem vscalar_Plus {D F n:Nat}{args:List AV}{h:AHeap}:OV F (D+1) 105 args h n (n+1)=evW 3 (OV F D) F a105 (frzs (frz true 0 (bif AV.nors args then [] else h) 8) args) (AV.nors args) (hglb h 3):=evV_frozen rfl
theorem wplane_both {D F n:Nat}{args:List AV}{h:AHeap}:OV F (D+1) 104 args h n (n+1)=match frzs (frz true 0 (bif AV.nors args then [] else h) 8) args with|none=>none|some zs=>match evFn (OV F D) 3 F a104 zs (hglb h 3) 3 with|none=>none|some (v,h',_)=>match frz (AV.nors args) 3 h' 8 v with|some v'=>some (v',none)|none=>none:=(evV_frozen rfl).trans rfl
theorem eplane_Clean (D:Nat)(hD:2≤D)(F:Nat)(a0_re a0_im:BitVec 64)(q:Bool):evW 3 (OV F D) F a73 (some [.c .f64 (a0_re).toNat (a0_im).toNat]) q G0 =
 match Pplane_Clean a0_re a0_im with|(r0,r1)=>some (.c .f64 (r0).toNat (r1).toNat,none):=by
 obtain ⟨D,rfl⟩:=dex hD
 have flc_0_0:AV.c .f64 0 0=.c .f64 (0#64).toNat (0#64).toNat:=id rfl
 have cscalar_Plus1:=escalar_Plus (D) (by omega) F
 rw [evW_some,G0]
 skip
 all_goals simp -implicitDefEqProofs only [*,a73,Pplane_Clean,flc_0_0,vscalar_Plus,a104,wplane_both,EVA.down,ne_eq,seval]
theorem vplane_Clean {D F n:Nat}{args:List AV}{h:AHeap}:OV F (D+1) 73 args h n (n+1)=evW 3 (OV F D) F a73 (frzs (frz true 0 (bif AV.nors args then [] else h) 8) args) (AV.nors args) (hglb h 3):=evV_frozen rfl
theorem lpauli_ActL0 (D:Nat)(hD:3≤D)(F:Nat)(v0:List Cpx)(v1 v3:Int)(v4 v5:BitVec 64)(v6:Int)(K:AE→AS→Option Res):∀ (f:Nat) (v2:Int) (v7:List Cpx) (s:AS),s.keepG s.n0 [2,8,31,32,33] [2]=some ⟨[(2,.lp 2 0),(8,.sl (some (3,0)) v7.length (.ex (v7.length))),(31,.vs v0.length .unk (enc Cpx.cells v0)),(32,.i .i64 v1),(33,.i .i64 v2)],[(2,[.i .i64 v3,.i .u64 (U v4),.i .u64 (U v5),.i .i64 v6])],[(3,⟨true,false,73,1,enc Cpx.cells v7⟩),(1,tab64)],4,3⟩→
 evLoop (evC (OV F D) 3 F a24L0) f s K=match Ppauli_ActL0 v0 v1 v3 v4 v5 v6 f v2 v7 with|none=>none|some (y0)=>K (.ex 0) ⟨[(8,.sl (some (3,0)) y0.length (.ex (y0.length)))],[],[(3,⟨true,false,73,1,enc Cpx.cells y0⟩),(1,tab64)],4,3⟩:=by
 obtain ⟨D,rfl⟩:=dex hD
 have cbits_OnesCount640:=ebits_OnesCount64 (D+2) (by omega) F
 have cplane_Clean0:=eplane_Clean (D+2) (by omega) F
 have cplane_Turn0:=eplane_Turn (D+2) (by omega) F
 intro f
 induction f with
 |zero=>intro v2 v7 s hs;simp only [evLoop,Ppauli_ActL0]
 |succ f ih=>
 intro v2 v7 s hs
 obtain ⟨k0,hk,hn,he,hr⟩:=@lk_all (OV F (D+3)) 3 F a24L0 f K
 rw [loop_succ,hk,a24L0,runC_cutg,hs]
 clear hs
 simp only [Ppauli_ActL0]
 clear hk
 by_cases h1:v2<v1
 rcases ixo (@pk_Cpx_cells v0 v2) with h2|⟨x1,h2⟩
 rotate_left
 rcases h3:(Pplane_Turn x1.re x1.im (IntKind.i64.wrap ((IntKind.i64.wrap (v6+((Pbits_OnesCount64 (v4 &&& v5)))))+(IntKind.i64.wrap (2*((Pbits_OnesCount64 ((BitVec.ofInt 64 v2) &&& v5)))))))) with ⟨r2,r3⟩
 rcases h4:(Pplane_Clean r2 r3) with ⟨r4,r5⟩
 rcases ixo (@pk_Cpx_cells v7 (bitop .xor .i64 v2 v4.toInt)) with h5|⟨x6,h5⟩
 rotate_left
 have h6:(bitop .xor .i64 v2 v4.toInt).toNat+1≤v7.length:=by have:=(idx_some h5.1).2.1;omega
 have h7:splice (enc Cpx.cells v7) ((bitop .xor .i64 v2 v4.toInt).toNat) [.c .f64 (r4).toNat (r5).toNat]=enc Cpx.cells ((v7).set (bitop .xor .i64 v2 v4.toInt).toNat (⟨r4,r5⟩:Cpx)):=put_one len_Cpx_cells h5.1 (⟨r4,r5⟩:Cpx)
 all_goals simp -implicitDefEqProofs only [*,-ih,vbits_OnesCount64,vplane_Clean,vplane_Turn,EVA.down,ne_eq,seval]
 all_goals exact ih _ _ _ (by simp only [*,-ih,vbits_OnesCount64,vplane_Clean,vplane_Turn,EVA.down,ne_eq,seval])
theorem epauli_Act (D:Nat)(hD:3≤D)(F:Nat)(a0_N:Int)(a0_X a0_Z:BitVec 64)(a0_Phase:Int)(a1:List Cpx)(q:Bool):evW 3 (OV F D) F a24 (some [.agg [.i .i64 a0_N,.i .u64 (U a0_X),.i .u64 (U a0_Z),.i .i64 a0_Phase],.vs a1.length .unk (enc Cpx.cells a1)]) q G0 =
 match Ppauli_Act F a0_N a0_X a0_Z a0_Phase a1 with|none=>none|some (r0,r1)=>some (.tup [.vs r0.length .unk (enc Cpx.cells r0),.i .i64 r1],none):=by
 obtain ⟨D,rfl⟩:=dex hD
 have flc_0_0:AV.c .f64 0 0=.c .f64 (0#64).toNat (0#64).toNat:=id rfl
 have cstate_Check0:=estate_Check (D+2) (by omega) F
 have cpauli_right0:=epauli_right (D+2) (by omega) F
 rw [evW_some,G0]
 simp only [Ppauli_Act]
 rcases h1:(Pstate_Check a1) with _|⟨r1,r2⟩
 rotate_left
 by_cases h2:r2=0
 replace h2:=eq_true h2
 rcases h3:((Ppauli_right a0_N a0_X a0_Z a0_Phase)) with _|_
 rotate_left
 by_cases h4:a0_N=r1
 replace h4:=eq_true h4
 rcases h5:(mkOk 16 (a1.length:Int) (a1.length:Int)) with _|_
 rotate_left
 have h6:(List.replicate (a1.length) [.c .f64 (0#64).toNat (0#64).toNat]).flatten=enc Cpx.cells (List.replicate a1.length (⟨0#64,0#64⟩:Cpx)):=enc_repl Cpx.cells _ ((⟨0#64,0#64⟩:Cpx):Cpx)
 have h7:∀ i,AV.sl (some (i,0)) (a1.length) (.ex (a1.length))=AV.sl (some (i,0)) (List.replicate a1.length (⟨0#64,0#64⟩:Cpx)).length (.ex (List.replicate a1.length (⟨0#64,0#64⟩:Cpx)).length):=by intro i;simp only [List.length_replicate]
 simp -implicitDefEqProofs only [*,a24,flc_0_0,vstate_Check,vpauli_right,runC_loop,EVA.down,ne_eq,seval]
 rw [lpauli_ActL0 (D+3) (by omega) F a1 (a1.length:Int) a0_N a0_X a0_Z a0_Phase _ F 0 (List.replicate a1.length (⟨0#64,0#64⟩:Cpx)) _ (by simp only [*,a24,flc_0_0,vstate_Check,vpauli_right,EVA.down,ne_eq,seval];try rfl)]
 rcases h8:(Ppauli_ActL0 a1 (a1.length:Int) a0_N a0_X a0_Z a0_Phase F 0 (List.replicate a1.length (⟨0#64,0#64⟩:Cpx))) with _|y3
 rotate_left
 have h8l0:y3.length=(List.replicate a1.length (⟨0#64,0#64⟩:Cpx)).length:=by have q:=lpauli_ActL0n0_0 a1 (a1.length:Int) a0_N a0_X a0_Z a0_Phase F 0 (List.replicate a1.length (⟨0#64,0#64⟩:Cpx)) y3 h8;simpa only [List.length_set] using q
 have h8t0:=len_facts h8l0
 all_goals simp -implicitDefEqProofs only [*,a24,flc_0_0,vstate_Check,vpauli_right,EVA.down,ne_eq,seval]
theorem vpauli_Act {D F n:Nat}{args:List AV}{h:AHeap}:OV F (D+1) 24 args h n (n+1)=evW 3 (OV F D) F a24 (frzs (frz true 0 (bif AV.nors args then [] else h) 8) args) (AV.nors args) (hglb h 3):=evV_frozen rfl
theorem eplane_Add (D:Nat)(hD:0≤D)(F:Nat)(a0_re a0_im a1_re a1_im:BitVec 64)(q:Bool):evW 3 (OV F D) F a25 (some [.c .f64 (a0_re).toNat (a0_im).toNat,.c .f64 (a1_re).toNat (a1_im).toNat]) q G0 =
 match Pplane_Add a0_re a0_im a1_re a1_im with|(r0,r1)=>some (.c .f64 (r0).toNat (r1).toNat,none):=by
 have flc_0_0:AV.c .f64 0 0=.c .f64 (0#64).toNat (0#64).toNat:=id rfl
 rw [evW_some,G0]
 skip
 all_goals simp -implicitDefEqProofs only [*,a25,Pplane_Add,flc_0_0,EVA.down,ne_eq,seval]
theorem vplane_Add {D F n:Nat}{args:List AV}{h:AHeap}:OV F (D+1) 25 args h n (n+1)=evW 3 (OV F D) F a25 (frzs (frz true 0 (bif AV.nors args then [] else h) 8) args) (AV.nors args) (hglb h 3):=evV_frozen rfl
theorem lstab_StateL0 (D:Nat)(hD:1≤D)(F:Nat)(v0 v1:List Cpx)(v2 v3:Int)(v4:List Pl)(v5 v6:Int)(v7:List Cpx)(v8 v9 v10:Int)(v11 v12:List Pl)(K:AE→AS→Option Res):∀ (f:Nat) (s:AS),s.keepG s.n0 [1,5,9,24,25,36,37,38,48,49,50] [1]=some ⟨[(1,.lp 1 0),(5,.vs v0.length .unk (enc Cpx.cells v0)),(9,.vs v1.length .unk (enc Cpx.cells v1)),(24,.i .i64 v2),(25,.i .i64 v3),(36,.vs v4.length .unk (enc Pl.cells v4)),(37,.i .i64 v5),(38,.i .i64 v6),(48,.vs v7.length .unk (enc Cpx.cells v7)),(49,.i .i64 v8),(50,.i .i64 v9)],[(1,[.i .i64 v10,.vs v11.length .unk (enc Pl.cells v11),.vs v12.length .unk (enc Pl.cells v12)])],[(1,tab64)],3,3⟩→
 evLoop (evC (OV F D) 3 F a7L0) f s K=match Pstab_StateL0 v0 v1 v2 v3 v4 v5 v6 v7 v8 v9 v10 v11 v12 f with|none=>none|some (_)=>K (.ex 5) ⟨[(1,.lp 1 0),(5,.vs v0.length .unk (enc Cpx.cells v0)),(24,.i .i64 v2),(25,.i .i64 v3),(36,.vs v4.length .unk (enc Pl.cells v4)),(37,.i .i64 v5),(38,.i .i64 v6)],[(1,[.i .i64 v10,.vs v11.length .unk (enc Pl.cells v11),.vs v12.length .unk (enc Pl.cells v12)])],[(1,tab64)],3,3⟩:=by
 obtain ⟨D,rfl⟩:=dex hD
 have flf_4602678819172646912:AV.f .f64 4602678819172646912=.f .f64 (4602678819172646912#64).toNat:=id rfl
 have flx_4602678819172646912:∀ x,AV.c .f64 x 4602678819172646912=.c .f64 x (4602678819172646912#64).toNat:=fun _=>id rfl
 have fly_4602678819172646912:∀ x,AV.c .f64 4602678819172646912 x=.c .f64 (4602678819172646912#64).toNat x:=fun _=>id rfl
 have cplane_Add0:=eplane_Add (D) (by omega) F
 intro f
 induction f with
 |zero=>intro s hs;simp only [evLoop,Pstab_StateL0]
 |succ f ih=>
 intro s hs
 obtain ⟨k0,hk,hn,he,hr⟩:=@lk_all (OV F (D+1)) 3 F a7L0 f K
 rw [loop_succ,hk,a7L0,runC_cutg,hs]
 clear hs
 simp only [Pstab_StateL0]
 clear hk
 by_cases h1:v9<v8
 rcases ixo (@pk_Cpx_cells v7 v9) with h2|⟨x1,h2⟩
 rotate_left
 rcases ixo (@pk_Cpx_cells v1 v9) with h3|⟨x2,h3⟩
 rotate_left
 rcases h4:(Pplane_Add x1.re x1.im x2.re x2.im) with ⟨r3,r4⟩
 rcases ixo (@pk_Cpx_cells v0 v9) with h5|⟨x5,h5⟩
 all_goals simp -implicitDefEqProofs only [*,-ih,flf_4602678819172646912,flx_4602678819172646912,fly_4602678819172646912,vplane_Add,EVA.down,ne_eq,seval]
theorem lstab_StateL1 (D:Nat)(hD:4≤D)(F:Nat)(v0:List Cpx)(v1 v2:Int)(v3:List Pl)(v4 v6:Int)(v7 v8:List Pl)(K:AE→AS→Option Res):∀ (f:Nat) (v5:Int) (s:AS),s.keepG s.n0 [1,5,24,25,36,37,38] [1]=some ⟨[(1,.lp 1 0),(5,.vs v0.length .unk (enc Cpx.cells v0)),(24,.i .i64 v1),(25,.i .i64 v2),(36,.vs v3.length .unk (enc Pl.cells v3)),(37,.i .i64 v4),(38,.i .i64 v5)],[(1,[.i .i64 v6,.vs v7.length .unk (enc Pl.cells v7),.vs v8.length .unk (enc Pl.cells v8)])],[(1,tab64)],3,3⟩→
 evLoop (evC (OV F D) 3 F a7L1) f s K=match Pstab_StateL1 F v0 v1 v2 v3 v4 v6 v7 v8 f v5 with|none=>none|some (_)=>K (.ex 3) ⟨[(1,.lp 1 0),(5,.vs v0.length .unk (enc Cpx.cells v0)),(24,.i .i64 v1),(25,.i .i64 v2)],[(1,[.i .i64 v6,.vs v7.length .unk (enc Pl.cells v7),.vs v8.length .unk (enc Pl.cells v8)])],[(1,tab64)],3,3⟩:=by
 obtain ⟨D,rfl⟩:=dex hD
 have cpauli_Act0:=epauli_Act (D+3) (by omega) F
 intro f
 induction f with
 |zero=>intro v5 s hs;simp only [evLoop,Pstab_StateL1]
 |succ f ih=>
 intro v5 s hs
 obtain ⟨k0,hk,hn,he,hr⟩:=@lk_all (OV F (D+4)) 3 F a7L1 f K
 rw [loop_succ,hk,a7L1,runC_cutg,hs]
 clear hs
 simp only [Pstab_StateL1]
 clear hk
 by_cases h1:v5<v4
 rcases ixo (@pk_Pl_cells v3 v5) with h2|⟨x1,h2⟩
 rotate_left
 rcases h3:(Ppauli_Act F x1.N x1.X x1.Z x1.Ph v0) with _|⟨r2,r3⟩
 rotate_left
 simp -implicitDefEqProofs only [*,-ih,vpauli_Act,runC_loop,EVA.down,ne_eq,seval]
 rw [lstab_StateL0 (D+4) (by omega) F v0 r2 v1 v2 v3 v4 v5 v0 (v0.length:Int) 0 v6 v7 v8 _ F  _ (by simp only [*,-ih,vpauli_Act,EVA.down,ne_eq,seval];try rfl)]
 rcases h4:(Pstab_StateL0 v0 r2 v1 v2 v3 v4 v5 v0 (v0.length:Int) 0 v6 v7 v8 F) with _|_
 all_goals simp -implicitDefEqProofs only [*,-ih,vpauli_Act,EVA.down,ne_eq,seval]
 all_goals exact ih _ _ (by simp only [*,-ih,vpauli_Act,EVA.down,ne_eq,seval])
theorem estab_State_1 (D:Nat)(hD:0≤D)(F:Nat)(a0_re a0_im:BitVec 64)(q:Bool):evW 3 (OV F D) F a27 (some [.c .f64 (a0_re).toNat (a0_im).toNat]) q G0 =
 some (.b ((Pstab_State_1 a0_re a0_im)),none):=by
 have flc_0_0:AV.c .f64 0 0=.c .f64 (0#64).toNat (0#64).toNat:=id rfl
 rw [evW_some,G0]
 skip
 all_goals simp -implicitDefEqProofs only [*,a27,Pstab_State_1,flc_0_0,EVA.down,ne_eq,seval]
theorem vstab_State_1 {D F n:Nat}{args:List AV}{h:AHeap}:OV F (D+1) 27 args h n (n+1)=evW 3 (OV F D) F a27 (frzs (frz true 0 (bif AV.nors args then [] else h) 8) args) (AV.nors args) (hglb h 3):=evV_frozen rfl
theorem lstab_StateL2 (D:Nat)(hD:1≤D)(F:Nat)(v0:List Cpx)(v1:Int)(K:AE→AS→Option Res):∀ (f:Nat) (v2:Int) (s:AS),s.keep [0,1,7,8] []=some ⟨[(0,.vs v0.length .unk (enc Cpx.cells v0)),(1,.fn (.func 27) [] []),(7,.i .i64 v1),(8,.i .i64 v2)],[],[(1,tab64)],3,3⟩→
 evLoop (evC (OV F D) 3 F a75L0) f s K=match Pstab_StateL2 v0 v1 f v2 with|none=>none|some (.inl y0)=>K .ret ⟨[(4,.i .i64 y0)],[],[(1,tab64)],3,3⟩|some (.inr _)=>K (.ex 0) ⟨[],[],[(1,tab64)],3,3⟩:=by
 obtain ⟨D,rfl⟩:=dex hD
 have cstab_State_10:=estab_State_1 (D) (by omega) F
 intro f
 induction f with
 |zero=>intro v2 s hs;simp only [evLoop,Pstab_StateL2]
 |succ f ih=>
 intro v2 s hs
 obtain ⟨k0,hk,hn,he,hr⟩:=@lk_all (OV F (D+1)) 3 F a75L0 f K
 rw [loop_succ,hk,a75L0,runC_cut,hs]
 clear hs
 simp only [Pstab_StateL2]
 clear hk
 by_cases h1:v2<v1
 rcases ixo (@pk_Cpx_cells v0 v2) with h2|⟨x1,h2⟩
 rotate_left
 rcases h3:((Pstab_State_1 x1.re x1.im)) with _|_
 all_goals simp -implicitDefEqProofs only [*,-ih,vstab_State_1,EVA.down,ne_eq,seval]
 all_goals exact ih _ _ (by simp only [*,-ih,vstab_State_1,EVA.down,ne_eq,seval])
theorem lstab_StateL3 (D:Nat)(hD:1≤D)(F:Nat)(v0:List Cpx)(v1 v2:Int)(v3:List Pl)(v4 v5 v6 v8:Int)(v9 v10:List Pl)(K:AE→AS→Option Res):∀ (f:Nat) (v7:Int) (v11:List Cpx) (s:AS),s.keepG s.n0 [1,5,9,24,25,36,37,38,48,49,50] [1]=some ⟨[(1,.lp 1 0),(5,.sl (some (3,0)) v11.length (.ex (v11.length))),(9,.vs v0.length .unk (enc Cpx.cells v0)),(24,.i .i64 v1),(25,.i .i64 v2),(36,.vs v3.length .unk (enc Pl.cells v3)),(37,.i .i64 v4),(38,.i .i64 v5),(48,.sl (some (3,0)) v11.length (.ex (v11.length))),(49,.i .i64 v6),(50,.i .i64 v7)],[(1,[.i .i64 v8,.vs v9.length .unk (enc Pl.cells v9),.vs v10.length .unk (enc Pl.cells v10)])],[(3,⟨true,false,73,1,enc Cpx.cells v11⟩),(1,tab64)],4,3⟩→
 evLoop (evC (OV F D) 3 F a7L0) f s K=match Pstab_StateL3 v0 v1 v2 v3 v4 v5 v6 v8 v9 v10 f v7 v11 with|none=>none|some (y0)=>K (.ex 5) ⟨[(1,.lp 1 0),(5,.sl (some (3,0)) y0.length (.ex (y0.length))),(24,.i .i64 v1),(25,.i .i64 v2),(36,.vs v3.length .unk (enc Pl.cells v3)),(37,.i .i64 v4),(38,.i .i64 v5)],[(1,[.i .i64 v8,.vs v9.length .unk (enc Pl.cells v9),.vs v10.length .unk (enc Pl.cells v10)])],[(3,⟨true,false,73,1,enc Cpx.cells y0⟩),(1,tab64)],4,3⟩:=by
 obtain ⟨D,rfl⟩:=dex hD
 have flf_4602678819172646912:AV.f .f64 4602678819172646912=.f .f64 (4602678819172646912#64).toNat:=id rfl
 have flx_4602678819172646912:∀ x,AV.c .f64 x 4602678819172646912=.c .f64 x (4602678819172646912#64).toNat:=fun _=>id rfl
 have fly_4602678819172646912:∀ x,AV.c .f64 4602678819172646912 x=.c .f64 (4602678819172646912#64).toNat x:=fun _=>id rfl
 have cplane_Add0:=eplane_Add (D) (by omega) F
 intro f
 induction f with
 |zero=>intro v7 v11 s hs;simp only [evLoop,Pstab_StateL3]
 |succ f ih=>
 intro v7 v11 s hs
 obtain ⟨k0,hk,hn,he,hr⟩:=@lk_all (OV F (D+1)) 3 F a7L0 f K
 rw [loop_succ,hk,a7L0,runC_cutg,hs]
 clear hs
 simp only [Pstab_StateL3]
 clear hk
 by_cases h1:v7<v6
 rcases ixo (@pk_Cpx_cells v11 v7) with h2|⟨x1,h2⟩
 rotate_left
 rcases ixo (@pk_Cpx_cells v0 v7) with h3|⟨x2,h3⟩
 rotate_left
 rcases h4:(Pplane_Add x1.re x1.im x2.re x2.im) with ⟨r3,r4⟩
 have h5:v7.toNat+1≤v11.length:=by have:=(idx_some h2.1).2.1;omega
 have h6:splice (enc Cpx.cells v11) (v7.toNat) [.c .f64 ((fMul r3 4602678819172646912#64)).toNat ((fMul r4 4602678819172646912#64)).toNat]=enc Cpx.cells ((v11).set v7.toNat (⟨fMul r3 4602678819172646912#64,fMul r4 4602678819172646912#64⟩:Cpx)):=put_one len_Cpx_cells h2.1 (⟨fMul r3 4602678819172646912#64,fMul r4 4602678819172646912#64⟩:Cpx)
 all_goals simp -implicitDefEqProofs only [*,-ih,flf_4602678819172646912,flx_4602678819172646912,fly_4602678819172646912,vplane_Add,EVA.down,ne_eq,seval]
 all_goals exact ih _ _ _ (by simp only [*,-ih,flf_4602678819172646912,flx_4602678819172646912,fly_4602678819172646912,vplane_Add,EVA.down,ne_eq,seval])
theorem lstab_StateL4 (D:Nat)(hD:4≤D)(F:Nat)(v0 v1:Int)(v2:List Pl)(v3 v5:Int)(v6 v7:List Pl)(K:AE→AS→Option Res):∀ (f:Nat) (v4:Int) (v8:List Cpx) (s:AS),s.keepG s.n0 [1,5,24,25,36,37,38] [1]=some ⟨[(1,.lp 1 0),(5,.sl (some (3,0)) v8.length (.ex (v8.length))),(24,.i .i64 v0),(25,.i .i64 v1),(36,.vs v2.length .unk (enc Pl.cells v2)),(37,.i .i64 v3),(38,.i .i64 v4)],[(1,[.i .i64 v5,.vs v6.length .unk (enc Pl.cells v6),.vs v7.length .unk (enc Pl.cells v7)])],[(3,⟨true,false,73,1,enc Cpx.cells v8⟩),(1,tab64)],4,3⟩→
 evLoop (evC (OV F D) 3 F a7L1) f s K=match Pstab_StateL4 F v0 v1 v2 v3 v5 v6 v7 f v4 v8 with|none=>none|some (y0)=>K (.ex 3) ⟨[(1,.lp 1 0),(5,.sl (some (3,0)) y0.length (.ex (y0.length))),(24,.i .i64 v0),(25,.i .i64 v1)],[(1,[.i .i64 v5,.vs v6.length .unk (enc Pl.cells v6),.vs v7.length .unk (enc Pl.cells v7)])],[(3,⟨true,false,73,1,enc Cpx.cells y0⟩),(1,tab64)],4,3⟩:=by
 obtain ⟨D,rfl⟩:=dex hD
 have cpauli_Act0:=epauli_Act (D+3) (by omega) F
 intro f
 induction f with
 |zero=>intro v4 v8 s hs;simp only [evLoop,Pstab_StateL4]
 |succ f ih=>
 intro v4 v8 s hs
 obtain ⟨k0,hk,hn,he,hr⟩:=@lk_all (OV F (D+4)) 3 F a7L1 f K
 rw [loop_succ,hk,a7L1,runC_cutg,hs]
 clear hs
 simp only [Pstab_StateL4]
 clear hk
 by_cases h1:v4<v3
 rcases ixo (@pk_Pl_cells v2 v4) with h2|⟨x1,h2⟩
 rotate_left
 rcases h3:(Ppauli_Act F x1.N x1.X x1.Z x1.Ph v8) with _|⟨r2,r3⟩
 rotate_left
 simp -implicitDefEqProofs only [*,-ih,vpauli_Act,runC_loop,EVA.down,ne_eq,seval]
 rw [lstab_StateL3 (D+4) (by omega) F r2 v0 v1 v2 v3 v4 ((v8.length:Nat):Int) v5 v6 v7 _ F 0 v8 _ (by simp only [*,-ih,vpauli_Act,EVA.down,ne_eq,seval];try rfl)]
 rcases h4:(Pstab_StateL3 r2 v0 v1 v2 v3 v4 ((v8.length:Nat):Int) v5 v6 v7 F 0 v8) with _|y4
 rotate_left
 have h4l0:y4.length=v8.length:=by have q:=lstab_StateL3n0_0 r2 v0 v1 v2 v3 v4 ((v8.length:Nat):Int) v5 v6 v7 F 0 v8 y4 h4;simpa only [List.length_set] using q
 have h4t0:=len_facts h4l0
 all_goals simp -implicitDefEqProofs only [*,-ih,vpauli_Act,EVA.down,ne_eq,seval]
 all_goals exact ih _ _ _ (by simp only [*,-ih,vpauli_Act,EVA.down,ne_eq,seval])
theorem wslices_ContainsFunc_complex128 {D F n:Nat}{args:List AV}{h:AHeap}:OV F (D+1) 26 args h n (n+1)=match frzs (frz true 0 (bif AV.nors args then [] else h) 8) args with|none=>none|some zs=>match evFn (OV F D) 3 F a26 zs (hglb h 3) 3 with|none=>none|some (v,h',_)=>match frz (AV.nors args) 3 h' 8 v with|some v'=>some (v',none)|none=>none:=(evV_frozen rfl).trans rfl
theorem wslices_IndexFunc_complex128 {D F n:Nat}{args:List AV}{h:AHeap}:OV F (D+1) 75 args h n (n+1)=match frzs (frz true 0 (bif AV.nors args then [] else h) 8) args with|none=>none|some zs=>match evFn (OV F D) 3 F a75 zs (hglb h 3) 3 with|none=>none|some (v,h',_)=>match frz (AV.nors args) 3 h' 8 v with|some v'=>some (v',none)|none=>none:=(evV_frozen rfl).trans rfl
theorem lstab_StateL5 (D:Nat)(hD:4≤D)(F:Nat)(v0 v2:Int)(v3 v4:List Pl)(K:AE→AS→Option Res):∀ (f:Nat) (v1:Int) (s:AS),s.keepG s.n0 [1,24,25] [1]=some ⟨[(1,.lp 1 0),(24,.i .i64 v0),(25,.i .i64 v1)],[(1,[.i .i64 v2,.vs v3.length .unk (enc Pl.cells v3),.vs v4.length .unk (enc Pl.cells v4)])],[(1,tab64)],3,3⟩→
 evLoop (evC (OV F D) 3 F a7L2) f s K=match Pstab_StateL5 F v0 v2 v3 v4 f v1 with|none=>none|some (.inl _)=>K .ret ⟨[(2,.vs (([]:List Cpx).length) .unk (enc Cpx.cells [])),(3,.i .i64 (0))],[],[(1,tab64)],3,3⟩|some (.inr (.inl y0))=>K .ret ⟨[(2,.sl (some (3,0)) y0.length (.ex (y0.length))),(3,.i .i64 (0))],[],[(3,⟨true,false,73,1,enc Cpx.cells y0⟩),(1,tab64)],4,3⟩|some (.inr (.inr _))=>K (.ex 1) ⟨[],[],[(1,tab64)],3,3⟩:=by
 obtain ⟨D,rfl⟩:=dex hD
 have cstate_Basiso0:=estate_Basiso (D+3) (by omega) F
 intro f
 induction f with
 |zero=>intro v1 s hs;simp only [evLoop,Pstab_StateL5]
 |succ f ih=>
 intro v1 s hs
 obtain ⟨k0,hk,hn,he,hr⟩:=@lk_all (OV F (D+4)) 3 F a7L2 f K
 rw [loop_succ,hk,a7L2,runC_cutg,hs]
 clear hs
 simp only [Pstab_StateL5]
 clear hk
 by_cases h1:v1<v0
 rcases h2:(Pstate_Basis v2 v1) with _|⟨r1,r2⟩
 rotate_left
 by_cases h3:r1=[]
 replace h3:=eq_true h3
 simp -implicitDefEqProofs only [*,-ih,vstate_Basiso,a26,wslices_ContainsFunc_complex128,a75,wslices_IndexFunc_complex128,runC_loop,EVA.down,ne_eq,seval]
 rw [lstab_StateL1 (D+4) (by omega) F ([]) v0 v1 v3 (v3.length:Int) v2 v3 v4 _ F 0 _ (by simp only [*,-ih,vstate_Basiso,a26,wslices_ContainsFunc_complex128,a75,wslices_IndexFunc_complex128,EVA.down,ne_eq,seval];try rfl)]
 rcases h4:(Pstab_StateL1 F ([]) v0 v1 v3 (v3.length:Int) v2 v3 v4 F 0) with _|_
 rotate_left
 simp -implicitDefEqProofs only [*,-ih,vstate_Basiso,a26,wslices_ContainsFunc_complex128,a75,wslices_IndexFunc_complex128,runC_loop,EVA.down,ne_eq,seval]
 rw [lstab_StateL2 (D+2) (by omega) F ([]) (([]:List Cpx).length:Int) _ F 0 _ (by simp only [*,-ih,vstate_Basiso,a26,wslices_ContainsFunc_complex128,a75,wslices_IndexFunc_complex128,EVA.down,ne_eq,seval];try rfl)]
 rcases h5:(Pstab_StateL2 ([]) (([]:List Cpx).length:Int) F 0) with _|(y3|_)
 rotate_left
 by_cases h6:y3≥0
 rotate_left
 rotate_left
 rotate_left
 simp -implicitDefEqProofs only [*,-ih,vstate_Basiso,a26,wslices_ContainsFunc_complex128,a75,wslices_IndexFunc_complex128,runC_loop,EVA.down,ne_eq,seval]
 rw [lstab_StateL4 (D+4) (by omega) F v0 v1 v3 (v3.length:Int) v2 v3 v4 _ F 0 r1 _ (by simp only [*,-ih,vstate_Basiso,a26,wslices_ContainsFunc_complex128,a75,wslices_IndexFunc_complex128,EVA.down,ne_eq,seval];try rfl)]
 rcases h7:(Pstab_StateL4 F v0 v1 v3 (v3.length:Int) v2 v3 v4 F 0 r1) with _|y4
 rotate_left
 have h7l0:y4.length=r1.length:=by have q:=lstab_StateL4n0_0 F v0 v1 v3 (v3.length:Int) v2 v3 v4 F 0 r1 y4 h7;simpa only [List.length_set] using q
 have h7t0:=len_facts h7l0
 simp -implicitDefEqProofs only [*,-ih,vstate_Basiso,a26,wslices_ContainsFunc_complex128,a75,wslices_IndexFunc_complex128,runC_loop,EVA.down,ne_eq,seval]
 rw [lstab_StateL2 (D+2) (by omega) F y4 (y4.length:Int) _ F 0 _ (by simp only [*,-ih,vstate_Basiso,a26,wslices_ContainsFunc_complex128,a75,wslices_IndexFunc_complex128,EVA.down,ne_eq,seval];try rfl)]
 rcases h8:(Pstab_StateL2 y4 (r1.length:Int) F 0) with _|(y5|_)
 rotate_left
 by_cases h9:y5≥0
 all_goals simp -implicitDefEqProofs only [*,-ih,vstate_Basiso,a26,wslices_ContainsFunc_complex128,a75,wslices_IndexFunc_complex128,EVA.down,ne_eq,seval]
 all_goals exact ih _ _ (by simp only [*,-ih,vstate_Basiso,a26,wslices_ContainsFunc_complex128,a75,wslices_IndexFunc_complex128,EVA.down,ne_eq,seval])
theorem estab_State (D:Nat)(hD:4≤D)(F:Nat)(a0_N:Int)(a0_Stab a0_Destab:List Pl)(q:Bool):evW 3 (OV F D) F a7 (some [.agg [.i .i64 a0_N,.vs a0_Stab.length .unk (enc Pl.cells a0_Stab),.vs a0_Destab.length .unk (enc Pl.cells a0_Destab)]]) q G0 =
 match Pstab_State F a0_N a0_Stab a0_Destab with|none=>none|some (r0,r1)=>some (.tup [.vs r0.length .unk (enc Cpx.cells r0),.i .i64 r1],none):=by
 obtain ⟨D,rfl⟩:=dex hD
 have ctableau_Check0:=etableau_Check (D+3) (by omega) F
 rw [evW_some,G0]
 simp only [Pstab_State]
 rcases h1:(Ptableau_Check F a0_N a0_Stab a0_Destab) with _|r1
 rotate_left
 by_cases h2:r1=0
 replace h2:=eq_true h2
 by_cases h3:a0_N>12
 rotate_left
 by_cases h4:a0_N<0
 rotate_left
 simp -implicitDefEqProofs only [*,a7,vtableau_Check,runC_loop,EVA.down,ne_eq,seval]
 rw [lstab_StateL5 (D+4) (by omega) F (IntKind.i64.wrap (1*2 ^ (min (a0_N).toNat 64))) a0_N a0_Stab a0_Destab _ F 0 _ (by simp only [*,a7,vtableau_Check,EVA.down,ne_eq,seval];try rfl)]
 rcases h5:(Pstab_StateL5 F (IntKind.i64.wrap (1*2 ^ (min (a0_N).toNat 64))) a0_N a0_Stab a0_Destab F 0) with _|(_|y2|_)
 all_goals simp -implicitDefEqProofs only [*,a7,vtableau_Check,EVA.down,ne_eq,seval]
theorem vstab_State {D F n:Nat}{args:List AV}{h:AHeap}:OV F (D+1) 7 args h n (n+1)=evW 3 (OV F D) F a7 (frzs (frz true 0 (bif AV.nors args then [] else h) 8) args) (AV.nors args) (hglb h 3):=evV_frozen rfl
theorem eref13_bit (D:Nat)(hD:0≤D)(F:Nat)(a0:BitVec 64)(a1:Int)(q:Bool):evW 3 (OV F D) F a107 (some [.i .u64 (U a0),.i .i64 a1]) q G0 =
 some (.i .i64 ((Pref13_bit a0 a1)),none):=by
 rw [evW_some,G0]
 skip
 all_goals simp -implicitDefEqProofs only [*,a107,Pref13_bit,EVA.down,ne_eq,seval]
theorem vref13_bit {D F n:Nat}{args:List AV}{h:AHeap}:OV F (D+1) 107 args h n (n+1)=evW 3 (OV F D) F a107 (frzs (frz true 0 (bif AV.nors args then [] else h) 8) args) (AV.nors args) (hglb h 3):=evV_frozen rfl
theorem lref13_RightL0 (D:Nat)(hD:1≤D)(F:Nat)(v1:Int)(v2 v3:BitVec 64)(v4:Int)(K:AE→AS→Option Res):∀ (f:Nat) (v0:Int) (s:AS),s.keep [1,3] [1]=some ⟨[(1,.lp 1 0),(3,.i .i64 v0)],[(1,[.i .i64 v1,.i .u64 (U v2),.i .u64 (U v3),.i .i64 v4])],[(1,tab64)],3,3⟩→
 evLoop (evC (OV F D) 3 F a76L0) f s K=match Pref13_RightL0 v1 v2 v3 v4 f v0 with|none=>none|some (.inl _)=>K .ret ⟨[(2,.b false)],[],[(1,tab64)],3,3⟩|some (.inr _)=>K (.ex 0) ⟨[],[],[(1,tab64)],3,3⟩:=by
 obtain ⟨D,rfl⟩:=dex hD
 have cref13_bit0:=eref13_bit (D) (by omega) F
 intro f
 induction f with
 |zero=>intro v0 s hs;simp only [evLoop,Pref13_RightL0]
 |succ f ih=>
 intro v0 s hs
 obtain ⟨k0,hk,hn,he,hr⟩:=@lk_all (OV F (D+1)) 3 F a76L0 f K
 rw [loop_succ,hk,a76L0,runC_cut,hs]
 clear hs
 simp only [Pref13_RightL0]
 clear hk
 by_cases h1:v0<64
 by_cases h2:(Pref13_bit v2 v0)=1
 replace h2:=eq_true h2
 rotate_left
 by_cases h3:(Pref13_bit v3 v0)=1
 replace h3:=eq_true h3
 all_goals simp -implicitDefEqProofs only [*,-ih,vref13_bit,EVA.down,ne_eq,seval]
 all_goals exact ih _ _ (by simp only [*,-ih,vref13_bit,EVA.down,ne_eq,seval])
theorem eref13_Right (D:Nat)(hD:1≤D)(F:Nat)(a0_N:Int)(a0_X a0_Z:BitVec 64)(a0_Phase:Int)(q:Bool):evW 3 (OV F D) F a76 (some [.agg [.i .i64 a0_N,.i .u64 (U a0_X),.i .u64 (U a0_Z),.i .i64 a0_Phase]]) q G0 =
 match Pref13_Right F a0_N a0_X a0_Z a0_Phase with|none=>none|some r0=>some (.b r0,none):=by
 obtain ⟨D,rfl⟩:=dex hD
 rw [evW_some,G0]
 simp only [Pref13_Right]
 by_cases h1:a0_N<0
 rotate_left
 by_cases h2:a0_N>64
 rotate_left
 by_cases h3:a0_Phase<0
 rotate_left
 by_cases h4:a0_Phase>3
 rotate_left
 simp -implicitDefEqProofs only [*,a76,runC_loop,EVA.down,ne_eq,seval]
 rw [lref13_RightL0 (D+1) (by omega) F a0_N a0_X a0_Z a0_Phase _ F a0_N _ (by simp only [*,a76,EVA.down,ne_eq,seval];try rfl)]
 rcases h5:(Pref13_RightL0 a0_N a0_X a0_Z a0_Phase F a0_N) with _|(_|_)
 all_goals simp -implicitDefEqProofs only [*,a76,EVA.down,ne_eq,seval]
theorem vref13_Right {D F n:Nat}{args:List AV}{h:AHeap}:OV F (D+1) 76 args h n (n+1)=evW 3 (OV F D) F a76 (frzs (frz true 0 (bif AV.nors args then [] else h) 8) args) (AV.nors args) (hglb h 3):=evV_frozen rfl
theorem lref14_RightL0 (D:Nat)(hD:2≤D)(F:Nat)(v0 v1 v3:Int)(v4 v5:List Pl)(K:AE→AS→Option Res):∀ (f:Nat) (v2:Int) (s:AS),s.keep [1,3,4,5] [1]=some ⟨[(1,.lp 1 0),(3,.i .i64 v0),(4,.i .i64 v1),(5,.i .i64 v2)],[(1,[.i .i64 v3,.vs v4.length .unk (enc Pl.cells v4),.vs v5.length .unk (enc Pl.cells v5)])],[(1,tab64)],3,3⟩→
 evLoop (evC (OV F D) 3 F a28L0) f s K=match Pref14_RightL0 F v0 v1 v3 v4 v5 f v2 with|none=>none|some (.inl _)=>K .ret ⟨[(2,.b false)],[],[(1,tab64)],3,3⟩|some (.inr _)=>K (.ex 2) ⟨[(1,.lp 1 0),(3,.i .i64 v0),(4,.i .i64 v1)],[(1,[.i .i64 v3,.vs v4.length .unk (enc Pl.cells v4),.vs v5.length .unk (enc Pl.cells v5)])],[(1,tab64)],3,3⟩:=by
 obtain ⟨D,rfl⟩:=dex hD
 have cref13_Right0:=eref13_Right (D+1) (by omega) F
 intro f
 induction f with
 |zero=>intro v2 s hs;simp only [evLoop,Pref14_RightL0]
 |succ f ih=>
 intro v2 s hs
 obtain ⟨k0,hk,hn,he,hr⟩:=@lk_all (OV F (D+2)) 3 F a28L0 f K
 rw [loop_succ,hk,a28L0,runC_cut,hs]
 clear hs
 simp only [Pref14_RightL0]
 clear hk
 by_cases h1:v2<2
 rcases ixo (@pk_Pl_cells v4 v1) with h2|⟨x1,h2⟩
 rotate_left
 by_cases h3:v2=1
 replace h3:=eq_true h3
 rcases ixo (@pk_Pl_cells v5 v1) with h4|⟨x2,h4⟩
 rotate_left
 rcases h5:(Pref13_Right F x2.N x2.X x2.Z x2.Ph) with _|r3
 rotate_left
 rcases h6:(r3) with _|_
 rotate_left
 by_cases h7:x2.N=v0
 replace h7:=eq_true h7
 by_cases h8:(x2.Ph.tmod 2)=1
 replace h8:=eq_true h8
 rotate_left
 rotate_left
 rotate_left
 rcases h9:(Pref13_Right F x1.N x1.X x1.Z x1.Ph) with _|r4
 rotate_left
 rcases h10:(r4) with _|_
 rotate_left
 by_cases h11:x1.N=v0
 replace h11:=eq_true h11
 by_cases h12:(x1.Ph.tmod 2)=1
 replace h12:=eq_true h12
 all_goals simp -implicitDefEqProofs only [*,-ih,vref13_Right,EVA.down,ne_eq,seval]
 all_goals exact ih _ _ (by simp only [*,-ih,vref13_Right,EVA.down,ne_eq,seval])
theorem lref14_RightL1 (D:Nat)(hD:2≤D)(F:Nat)(v0 v2:Int)(v3 v4:List Pl)(K:AE→AS→Option Res):∀ (f:Nat) (v1:Int) (s:AS),s.keep [1,3,4] [1]=some ⟨[(1,.lp 1 0),(3,.i .i64 v0),(4,.i .i64 v1)],[(1,[.i .i64 v2,.vs v3.length .unk (enc Pl.cells v3),.vs v4.length .unk (enc Pl.cells v4)])],[(1,tab64)],3,3⟩→
 evLoop (evC (OV F D) 3 F a28L1) f s K=match Pref14_RightL1 F v0 v2 v3 v4 f v1 with|none=>none|some (.inl _)=>K .ret ⟨[(2,.b false)],[],[(1,tab64)],3,3⟩|some (.inr _)=>K (.ex 0) ⟨[(1,.lp 1 0),(3,.i .i64 v0)],[(1,[.i .i64 v2,.vs v3.length .unk (enc Pl.cells v3),.vs v4.length .unk (enc Pl.cells v4)])],[(1,tab64)],3,3⟩:=by
 obtain ⟨D,rfl⟩:=dex hD
 intro f
 induction f with
 |zero=>intro v1 s hs;simp only [evLoop,Pref14_RightL1]
 |succ f ih=>
 intro v1 s hs
 obtain ⟨k0,hk,hn,he,hr⟩:=@lk_all (OV F (D+2)) 3 F a28L1 f K
 rw [loop_succ,hk,a28L1,runC_cut,hs]
 clear hs
 simp only [Pref14_RightL1]
 clear hk
 by_cases h1:v1<v0
 simp -implicitDefEqProofs only [*,-ih,runC_loop,EVA.down,ne_eq,seval]
 rw [lref14_RightL0 (D+2) (by omega) F v0 v1 v2 v3 v4 _ F 0 _ (by simp only [*,-ih,EVA.down,ne_eq,seval];try rfl)]
 rcases h2:(Pref14_RightL0 F v0 v1 v2 v3 v4 F 0) with _|(_|_)
 all_goals simp -implicitDefEqProofs only [*,-ih,EVA.down,ne_eq,seval]
 all_goals exact ih _ _ (by simp only [*,-ih,EVA.down,ne_eq,seval])
theorem lref14_commuteL0 (D:Nat)(hD:0≤D)(F:Nat)(K:AE→AS→Option Res):∀ (f:Nat) (v0:Int) (v1:BitVec 64) (s:AS),s.keep [5,6] []=some ⟨[(5,.i .i64 v0),(6,.i .u64 (U v1))],[],[(1,tab64)],3,3⟩→
 evLoop (evC (OV F D) 3 F a77L0) f s K=match Pref14_commuteL0 f v0 v1 with|none=>none|some (y0)=>K (.ex 0) ⟨[(5,.i .i64 y0)],[],[(1,tab64)],3,3⟩:=by
 intro f
 induction f with
 |zero=>intro v0 v1 s hs;simp only [evLoop,Pref14_commuteL0]
 |succ f ih=>
 intro v0 v1 s hs
 obtain ⟨k0,hk,hn,he,hr⟩:=@lk_all (OV F (D)) 3 F a77L0 f K
 rw [loop_succ,hk,a77L0,runC_cut,hs]
 clear hs
 simp only [Pref14_commuteL0]
 clear hk
 by_cases h1:v1=0#64
 replace h1:=eq_true h1
 all_goals simp -implicitDefEqProofs only [*,-ih,EVA.down,ne_eq,seval]
 all_goals exact ih _ _ _ (by simp only [*,-ih,EVA.down,ne_eq,seval])
theorem eref14_commute (D:Nat)(hD:0≤D)(F:Nat)(a0_N:Int)(a0_X a0_Z:BitVec 64)(a0_Phase a1_N:Int)(a1_X a1_Z:BitVec 64)(a1_Phase:Int)(q:Bool):evW 3 (OV F D) F a77 (some [.agg [.i .i64 a0_N,.i .u64 (U a0_X),.i .u64 (U a0_Z),.i .i64 a0_Phase],.agg [.i .i64 a1_N,.i .u64 (U a1_X),.i .u64 (U a1_Z),.i .i64 a1_Phase]]) q G0 =
 match Pref14_commute F a0_N a0_X a0_Z a0_Phase a1_N a1_X a1_Z a1_Phase with|none=>none|some r0=>some (.b r0,none):=by
 rw [evW_some,G0]
 simp only [Pref14_commute]
 simp -implicitDefEqProofs only [*,a77,runC_loop,EVA.down,ne_eq,seval]
 rw [lref14_commuteL0 (D) (by omega) F  _ F 0 ((a0_X &&& a1_Z) ^^^ (a0_Z &&& a1_X)) _ (by simp only [*,a77,EVA.down,ne_eq,seval];try rfl)]
 rcases h1:(Pref14_commuteL0 F 0 ((a0_X &&& a1_Z) ^^^ (a0_Z &&& a1_X))) with _|y1
 all_goals simp -implicitDefEqProofs only [*,a77,EVA.down,ne_eq,seval]
theorem vref14_commute {D F n:Nat}{args:List AV}{h:AHeap}:OV F (D+1) 77 args h n (n+1)=evW 3 (OV F D) F a77 (frzs (frz true 0 (bif AV.nors args then [] else h) 8) args) (AV.nors args) (hglb h 3):=evV_frozen rfl
theorem lref14_RightL2 (D:Nat)(hD:1≤D)(F:Nat)(v0 v1 v3:Int)(v4 v5:List Pl)(K:AE→AS→Option Res):∀ (f:Nat) (v2:Int) (s:AS),s.keep [1,3,7,8] [1]=some ⟨[(1,.lp 1 0),(3,.i .i64 v0),(7,.i .i64 v1),(8,.i .i64 v2)],[(1,[.i .i64 v3,.vs v4.length .unk (enc Pl.cells v4),.vs v5.length .unk (enc Pl.cells v5)])],[(1,tab64)],3,3⟩→
 evLoop (evC (OV F D) 3 F a28L2) f s K=match Pref14_RightL2 F v0 v1 v3 v4 v5 f v2 with|none=>none|some (.inl _)=>K .ret ⟨[(2,.b false)],[],[(1,tab64)],3,3⟩|some (.inr _)=>K (.ex 6) ⟨[(1,.lp 1 0),(3,.i .i64 v0),(7,.i .i64 v1)],[(1,[.i .i64 v3,.vs v4.length .unk (enc Pl.cells v4),.vs v5.length .unk (enc Pl.cells v5)])],[(1,tab64)],3,3⟩:=by
 obtain ⟨D,rfl⟩:=dex hD
 have cref14_commute0:=eref14_commute (D) (by omega) F
 intro f
 induction f with
 |zero=>intro v2 s hs;simp only [evLoop,Pref14_RightL2]
 |succ f ih=>
 intro v2 s hs
 obtain ⟨k0,hk,hn,he,hr⟩:=@lk_all (OV F (D+1)) 3 F a28L2 f K
 rw [loop_succ,hk,a28L2,runC_cut,hs]
 clear hs
 simp only [Pref14_RightL2]
 clear hk
 by_cases h1:v2<v0
 rcases ixo (@pk_Pl_cells v4 v1) with h2|⟨x1,h2⟩
 rotate_left
 rcases ixo (@pk_Pl_cells v4 v2) with h3|⟨x2,h3⟩
 rotate_left
 rcases h4:(Pref14_commute F x1.N x1.X x1.Z x1.Ph x2.N x2.X x2.Z x2.Ph) with _|r3
 rotate_left
 rcases h5:(r3) with _|_
 rotate_left
 rcases ixo (@pk_Pl_cells v5 v1) with h6|⟨x4,h6⟩
 rotate_left
 rcases ixo (@pk_Pl_cells v5 v2) with h7|⟨x5,h7⟩
 rotate_left
 rcases h8:(Pref14_commute F x4.N x4.X x4.Z x4.Ph x5.N x5.X x5.Z x5.Ph) with _|r6
 rotate_left
 rcases h9:(r6) with _|_
 rotate_left
 rcases h10:(Pref14_commute F x4.N x4.X x4.Z x4.Ph x2.N x2.X x2.Z x2.Ph) with _|r7
 rotate_left
 by_cases h11:v1=v2
 replace h11:=eq_true h11
 rcases h12:(r7) with _|_
 rotate_left
 rotate_left
 rcases h13:(r7) with _|_
 all_goals simp -implicitDefEqProofs only [*,-ih,vref14_commute,EVA.down,ne_eq,seval]
 all_goals exact ih _ _ (by simp only [*,-ih,vref14_commute,EVA.down,ne_eq,seval])
theorem lref14_RightL3 (D:Nat)(hD:1≤D)(F:Nat)(v0 v2:Int)(v3 v4:List Pl)(K:AE→AS→Option Res):∀ (f:Nat) (v1:Int) (s:AS),s.keep [1,3,7] [1]=some ⟨[(1,.lp 1 0),(3,.i .i64 v0),(7,.i .i64 v1)],[(1,[.i .i64 v2,.vs v3.length .unk (enc Pl.cells v3),.vs v4.length .unk (enc Pl.cells v4)])],[(1,tab64)],3,3⟩→
 evLoop (evC (OV F D) 3 F a28L3) f s K=match Pref14_RightL3 F v0 v2 v3 v4 f v1 with|none=>none|some (.inl _)=>K .ret ⟨[(2,.b false)],[],[(1,tab64)],3,3⟩|some (.inr _)=>K (.ex 4) ⟨[],[],[(1,tab64)],3,3⟩:=by
 obtain ⟨D,rfl⟩:=dex hD
 intro f
 induction f with
 |zero=>intro v1 s hs;simp only [evLoop,Pref14_RightL3]
 |succ f ih=>
 intro v1 s hs
 obtain ⟨k0,hk,hn,he,hr⟩:=@lk_all (OV F (D+1)) 3 F a28L3 f K
 rw [loop_succ,hk,a28L3,runC_cut,hs]
 clear hs
 simp only [Pref14_RightL3]
 clear hk
 by_cases h1:v1<v0
 simp -implicitDefEqProofs only [*,-ih,runC_loop,EVA.down,ne_eq,seval]
 rw [lref14_RightL2 (D+1) (by omega) F v0 v1 v2 v3 v4 _ F 0 _ (by simp only [*,-ih,EVA.down,ne_eq,seval];try rfl)]
 rcases h2:(Pref14_RightL2 F v0 v1 v2 v3 v4 F 0) with _|(_|_)
 all_goals simp -implicitDefEqProofs only [*,-ih,EVA.down,ne_eq,seval]
 all_goals exact ih _ _ (by simp only [*,-ih,EVA.down,ne_eq,seval])
theorem eref14_Right (D:Nat)(hD:2≤D)(F:Nat)(a0_N:Int)(a0_Stab a0_Destab:List Pl)(q:Bool):evW 3 (OV F D) F a28 (some [.agg [.i .i64 a0_N,.vs a0_Stab.length .unk (enc Pl.cells a0_Stab),.vs a0_Destab.length .unk (enc Pl.cells a0_Destab)]]) q G0 =
 match Pref14_Right F a0_N a0_Stab a0_Destab with|none=>none|some r0=>some (.b r0,none):=by
 obtain ⟨D,rfl⟩:=dex hD
 rw [evW_some,G0]
 simp only [Pref14_Right]
 by_cases h1:a0_N<0
 rotate_left
 by_cases h2:a0_N>64
 rotate_left
 by_cases h3:(a0_Stab.length:Int)=a0_N
 replace h3:=eq_true h3
 by_cases h4:(a0_Destab.length:Int)=a0_N
 replace h4:=eq_true h4
 simp -implicitDefEqProofs only [*,a28,runC_loop,EVA.down,ne_eq,seval]
 rw [lref14_RightL1 (D+2) (by omega) F a0_N a0_N a0_Stab a0_Destab _ F 0 _ (by simp only [*,a28,EVA.down,ne_eq,seval];try rfl)]
 rcases h5:(Pref14_RightL1 F a0_N a0_N a0_Stab a0_Destab F 0) with _|(_|_)
 rotate_left
 rotate_left
 simp -implicitDefEqProofs only [*,a28,runC_loop,EVA.down,ne_eq,seval]
 rw [lref14_RightL3 (D+2) (by omega) F a0_N a0_N a0_Stab a0_Destab _ F 0 _ (by simp only [*,a28,EVA.down,ne_eq,seval];try rfl)]
 rcases h6:(Pref14_RightL3 F a0_N a0_N a0_Stab a0_Destab F 0) with _|(_|_)
 all_goals simp -implicitDefEqProofs only [*,a28,EVA.down,ne_eq,seval]
theorem vref14_Right {D F n:Nat}{args:List AV}{h:AHeap}:OV F (D+1) 28 args h n (n+1)=evW 3 (OV F D) F a28 (frzs (frz true 0 (bif AV.nors args then [] else h) 8) args) (AV.nors args) (hglb h 3):=evV_frozen rfl
theorem eref09_Basis (D:Nat)(hD:0≤D)(F:Nat)(a0 a1:Int)(q:Bool):evW 3 (OV F D) F a29 (some [.i .i64 a0,.i .i64 a1]) q G0 =
 match Pref09_Basis a0 a1 with|none=>none|some (r0,r1)=>some (.tup [.vs r0.length .unk (enc S83.cs r0),.i .i64 r1],none):=by
 have flf_0:AV.f .f64 0=.f .f64 (0#64).toNat:=id rfl
 have flx_0:∀ x,AV.c .f64 x 0=.c .f64 x (0#64).toNat:=fun _=>id rfl
 have fly_0:∀ x,AV.c .f64 0 x=.c .f64 (0#64).toNat x:=fun _=>id rfl
 have flf_4607182418800017408:AV.f .f64 4607182418800017408=.f .f64 (4607182418800017408#64).toNat:=id rfl
 have flx_4607182418800017408:∀ x,AV.c .f64 x 4607182418800017408=.c .f64 x (4607182418800017408#64).toNat:=fun _=>id rfl
 have fly_4607182418800017408:∀ x,AV.c .f64 4607182418800017408 x=.c .f64 (4607182418800017408#64).toNat x:=fun _=>id rfl
 rw [evW_some,G0]
 simp only [Pref09_Basis]
 by_cases h1:a0<0
 rotate_left
 by_cases h2:a0>12
 rotate_left
 by_cases h3:a1<0
 rotate_left
 by_cases h4:a1≥(IntKind.i64.wrap (1*2 ^ (min (U (BitVec.ofInt 64 a0)).toNat 64)))
 rotate_left
 rcases h5:(mkOk 16 (IntKind.i64.wrap (1*2 ^ (min (U (BitVec.ofInt 64 a0)).toNat 64))) (IntKind.i64.wrap (1*2 ^ (min (U (BitVec.ofInt 64 a0)).toNat 64)))) with _|_
 rotate_left
 have h6:(List.replicate ((IntKind.i64.wrap (1*2 ^ (min (U (BitVec.ofInt 64 a0)).toNat 64))).toNat) [.f .f64 (0#64).toNat,.f .f64 (0#64).toNat]).flatten=enc S83.cs (List.replicate (IntKind.i64.wrap (1*2 ^ (min (U (BitVec.ofInt 64 a0)).toNat 64))).toNat (⟨0#64,0#64⟩:S83)):=enc_repl S83.cs _ ((⟨0#64,0#64⟩:S83):S83)
 have h7:∀ i,AV.sl (some (i,0)) ((IntKind.i64.wrap (1*2 ^ (min (U (BitVec.ofInt 64 a0)).toNat 64))).toNat) (.ex ((IntKind.i64.wrap (1*2 ^ (min (U (BitVec.ofInt 64 a0)).toNat 64))).toNat))=AV.sl (some (i,0)) (List.replicate (IntKind.i64.wrap (1*2 ^ (min (U (BitVec.ofInt 64 a0)).toNat 64))).toNat (⟨0#64,0#64⟩:S83)).length (.ex (List.replicate (IntKind.i64.wrap (1*2 ^ (min (U (BitVec.ofInt 64 a0)).toNat 64))).toNat (⟨0#64,0#64⟩:S83)).length):=by intro i;simp only [List.length_replicate]
 rcases ixo (@pk_S83_cs (List.replicate (IntKind.i64.wrap (1*2 ^ (min (U (BitVec.ofInt 64 a0)).toNat 64))).toNat (⟨0#64,0#64⟩:S83)) a1) with h8|⟨x1,h8⟩
 rotate_left
 have h9:a1.toNat*2+1≤(List.replicate (IntKind.i64.wrap (1*2 ^ (min (U (BitVec.ofInt 64 a0)).toNat 64))).toNat (⟨0#64,0#64⟩:S83)).length*2:=by have:=(idx_some h8.1).2.1;omega
 have h10:splice (enc S83.cs (List.replicate (IntKind.i64.wrap (1*2 ^ (min (U (BitVec.ofInt 64 a0)).toNat 64))).toNat (⟨0#64,0#64⟩:S83))) (a1.toNat*2) [.f .f64 (4607182418800017408#64).toNat]=enc S83.cs ((List.replicate (IntKind.i64.wrap (1*2 ^ (min (U (BitVec.ofInt 64 a0)).toNat 64))).toNat (⟨0#64,0#64⟩:S83)).set a1.toNat (⟨4607182418800017408#64,x1.f_Im⟩:S83)):=enc_splice (k:=0) len_S83_cs (idx_some h8.1).2.2 (show 0+1≤2 by decide) rfl
 all_goals simp -implicitDefEqProofs only [*,a29,flf_0,flx_0,fly_0,flf_4607182418800017408,flx_4607182418800017408,fly_4607182418800017408,EVA.down,ne_eq,seval]
theorem vref09_Basis {D F n:Nat}{args:List AV}{h:AHeap}:OV F (D+1) 29 args h n (n+1)=evW 3 (OV F D) F a29 (frzs (frz true 0 (bif AV.nors args then [] else h) 8) args) (AV.nors args) (hglb h 3):=evV_frozen rfl
theorem eref03_Equal (D:Nat)(hD:0≤D)(F:Nat)(a0_Re a0_Im a1_Re a1_Im:BitVec 64)(q:Bool):evW 3 (OV F D) F a78 (some [.agg [.f .f64 (a0_Re).toNat,.f .f64 (a0_Im).toNat],.agg [.f .f64 (a1_Re).toNat,.f .f64 (a1_Im).toNat]]) q G0 =
 some (.b ((Pref03_Equal a0_Re a0_Im a1_Re a1_Im)),none):=by
 rw [evW_some,G0]
 simp only [Pref03_Equal]
 rcases h1:(fCmp .eql a0_Re a1_Re) with _|_
 all_goals simp -implicitDefEqProofs only [*,a78,EVA.down,ne_eq,seval]
theorem vref03_Equal {D F n:Nat}{args:List AV}{h:AHeap}:OV F (D+1) 78 args h n (n+1)=evW 3 (OV F D) F a78 (frzs (frz true 0 (bif AV.nors args then [] else h) 8) args) (AV.nors args) (hglb h 3):=evV_frozen rfl
theorem lref15_noneL0 (D:Nat)(hD:1≤D)(F:Nat)(v0:List S83)(K:AE→AS→Option Res):∀ (f:Nat) (v1:Int) (s:AS),s.keep [0,3] []=some ⟨[(0,.vs v0.length .unk (enc S83.cs v0)),(3,.i .i64 v1)],[],[(1,tab64)],3,3⟩→
 evLoop (evC (OV F D) 3 F a30L0) f s K=match Pref15_noneL0 v0 f v1 with|none=>none|some (.inl _)=>K .ret ⟨[(2,.b false)],[],[(1,tab64)],3,3⟩|some (.inr _)=>K (.ex 0) ⟨[],[],[(1,tab64)],3,3⟩:=by
 obtain ⟨D,rfl⟩:=dex hD
 have flf_0:AV.f .f64 0=.f .f64 (0#64).toNat:=id rfl
 have flx_0:∀ x,AV.c .f64 x 0=.c .f64 x (0#64).toNat:=fun _=>id rfl
 have fly_0:∀ x,AV.c .f64 0 x=.c .f64 (0#64).toNat x:=fun _=>id rfl
 have cref03_Equal0:=eref03_Equal (D) (by omega) F
 intro f
 induction f with
 |zero=>intro v1 s hs;simp only [evLoop,Pref15_noneL0]
 |succ f ih=>
 intro v1 s hs
 obtain ⟨k0,hk,hn,he,hr⟩:=@lk_all (OV F (D+1)) 3 F a30L0 f K
 rw [loop_succ,hk,a30L0,runC_cut,hs]
 clear hs
 simp only [Pref15_noneL0]
 clear hk
 by_cases h1:v1<(v0.length:Int)
 rcases ixo (@pk_S83_cs v0 v1) with h2|⟨x1,h2⟩
 rotate_left
 rcases h3:((Pref03_Equal x1.f_Re x1.f_Im 0#64 0#64)) with _|_
 all_goals simp -implicitDefEqProofs only [*,-ih,flf_0,flx_0,fly_0,vref03_Equal,EVA.down,ne_eq,seval]
 all_goals exact ih _ _ (by simp only [*,-ih,flf_0,flx_0,fly_0,vref03_Equal,EVA.down,ne_eq,seval])
theorem eref15_none (D:Nat)(hD:1≤D)(F:Nat)(a0:List S83)(q:Bool):evW 3 (OV F D) F a30 (some [.vs a0.length .unk (enc S83.cs a0)]) q G0 =
 match Pref15_none F a0 with|none=>none|some r0=>some (.b r0,none):=by
 obtain ⟨D,rfl⟩:=dex hD
 rw [evW_some,G0]
 simp only [Pref15_none]
 simp -implicitDefEqProofs only [*,a30,runC_loop,EVA.down,ne_eq,seval]
 rw [lref15_noneL0 (D+1) (by omega) F a0 _ F 0 _ (by simp only [*,a30,EVA.down,ne_eq,seval];try rfl)]
 rcases h1:(Pref15_noneL0 a0 F 0) with _|(_|_)
 all_goals simp -implicitDefEqProofs only [*,a30,EVA.down,ne_eq,seval]
theorem vref15_none {D F n:Nat}{args:List AV}{h:AHeap}:OV F (D+1) 30 args h n (n+1)=evW 3 (OV F D) F a30 (frzs (frz true 0 (bif AV.nors args then [] else h) 8) args) (AV.nors args) (hglb h 3):=evV_frozen rfl
theorem lref09_QubitsL0 (D:Nat)(hD:0≤D)(F:Nat)(v0:Int)(K:AE→AS→Option Res):∀ (f:Nat) (v1:Int) (s:AS),s.keep [0,3] []=some ⟨[(0,.i .i64 v0),(3,.i .i64 v1)],[],[(1,tab64)],3,3⟩→
 evLoop (evC (OV F D) 3 F a108L0) f s K=match Pref09_QubitsL0 v0 f v1 with|none=>none|some (.inl y0)=>K .ret ⟨[(2,.i .i64 y0)],[],[(1,tab64)],3,3⟩|some (.inr _)=>K (.ex 0) ⟨[],[],[(1,tab64)],3,3⟩:=by
 intro f
 induction f with
 |zero=>intro v1 s hs;simp only [evLoop,Pref09_QubitsL0]
 |succ f ih=>
 intro v1 s hs
 obtain ⟨k0,hk,hn,he,hr⟩:=@lk_all (OV F (D)) 3 F a108L0 f K
 rw [loop_succ,hk,a108L0,runC_cut,hs]
 clear hs
 simp only [Pref09_QubitsL0]
 clear hk
 by_cases h1:v1≤12
 by_cases h2:v0=(IntKind.i64.wrap (1*2 ^ (min (U (BitVec.ofInt 64 v1)).toNat 64)))
 replace h2:=eq_true h2
 all_goals simp -implicitDefEqProofs only [*,-ih,EVA.down,ne_eq,seval]
 all_goals exact ih _ _ (by simp only [*,-ih,EVA.down,ne_eq,seval])
theorem eref09_Qubits (D:Nat)(hD:0≤D)(F:Nat)(a0:Int)(q:Bool):evW 3 (OV F D) F a108 (some [.i .i64 a0]) q G0 =
 match Pref09_Qubits F a0 with|none=>none|some r0=>some (.i .i64 r0,none):=by
 rw [evW_some,G0]
 simp only [Pref09_Qubits]
 simp -implicitDefEqProofs only [*,a108,runC_loop,EVA.down,ne_eq,seval]
 rw [lref09_QubitsL0 (D) (by omega) F a0 _ F 0 _ (by simp only [*,a108,EVA.down,ne_eq,seval];try rfl)]
 rcases h1:(Pref09_QubitsL0 a0 F 0) with _|(y1|_)
 all_goals simp -implicitDefEqProofs only [*,a108,EVA.down,ne_eq,seval]
theorem vref09_Qubits {D F n:Nat}{args:List AV}{h:AHeap}:OV F (D+1) 108 args h n (n+1)=evW 3 (OV F D) F a108 (frzs (frz true 0 (bif AV.nors args then [] else h) 8) args) (AV.nors args) (hglb h 3):=evV_frozen rfl
theorem eref13_Letter (D:Nat)(hD:2≤D)(F:Nat)(a0_N:Int)(a0_X a0_Z:BitVec 64)(a0_Phase a1:Int)(q:Bool):evW 3 (OV F D) F a109 (some [.agg [.i .i64 a0_N,.i .u64 (U a0_X),.i .u64 (U a0_Z),.i .i64 a0_Phase],.i .i64 a1]) q G0 =
 match Pref13_Letter F a0_N a0_X a0_Z a0_Phase a1 with|none=>none|some r0=>some (.i .u8 (r0),none):=by
 obtain ⟨D,rfl⟩:=dex hD
 have cref13_Right0:=eref13_Right (D+1) (by omega) F
 have cref13_bit0:=eref13_bit (D+1) (by omega) F
 rw [evW_some,G0]
 simp only [Pref13_Letter]
 rcases h1:(Pref13_Right F a0_N a0_X a0_Z a0_Phase) with _|r1
 rotate_left
 rcases h2:(r1) with _|_
 rotate_left
 by_cases h3:a1<0
 rotate_left
 by_cases h4:a1≥a0_N
 rotate_left
 by_cases h5:(IntKind.i64.wrap ((IntKind.i64.wrap (2*(Pref13_bit a0_X a1)))+(Pref13_bit a0_Z a1)))=1
 replace h5:=eq_true h5
 rotate_left
 by_cases h6:(IntKind.i64.wrap ((IntKind.i64.wrap (2*(Pref13_bit a0_X a1)))+(Pref13_bit a0_Z a1)))=2
 replace h6:=eq_true h6
 rotate_left
 by_cases h7:(IntKind.i64.wrap ((IntKind.i64.wrap (2*(Pref13_bit a0_X a1)))+(Pref13_bit a0_Z a1)))=3
 replace h7:=eq_true h7
 all_goals simp -implicitDefEqProofs only [*,a109,vref13_Right,vref13_bit,EVA.down,ne_eq,seval]
theorem vref13_Letter {D F n:Nat}{args:List AV}{h:AHeap}:OV F (D+1) 109 args h n (n+1)=evW 3 (OV F D) F a109 (frzs (frz true 0 (bif AV.nors args then [] else h) 8) args) (AV.nors args) (hglb h 3):=evV_frozen rfl
theorem lref13_ActL0 (D:Nat)(hD:3≤D)(F:Nat)(K:AE→AS→Option Res):∀ (f:Nat) (v0:List S83) (v1 v2 v3:Int) (v4 v5:BitVec 64) (v6:Int) (v7:List Int) (s:AS),s.keepG s.n0 [1,2,6,7,8] [2]=some ⟨[(1,.vs v0.length .unk (enc S83.cs v0)),(2,.lp 2 0),(6,.i .i64 v1),(7,.sl (some (3,0)) v7.length .op),(8,.i .i64 v2)],[(2,[.i .i64 v3,.i .u64 (U v4),.i .u64 (U v5),.i .i64 v6])],[(3,⟨true,true,5,1,enc c5 v7⟩),(1,tab64)],4,3⟩→
 evLoop (evC (OV F D) 3 F a79L0) f s K=match Pref13_ActL0 F f v0 v1 v2 v3 v4 v5 v6 v7 with|none=>none|some (.inl (y0,y1,y2,y3,y4,y5))=>K (.ex 0) ⟨[(1,.vs y0.length .unk (enc S83.cs y0)),(2,.lp 2 0),(6,.i .i64 y1),(7,.sl none 0 (.ex 0))],[(2,[.i .i64 y2,.i .u64 (U y3),.i .u64 (U y4),.i .i64 y5])],[(1,tab64)],3,3⟩|some (.inr (y0,y1,y2,y3,y4,y5,y6))=>K (.ex 0) ⟨[(1,.vs y0.length .unk (enc S83.cs y0)),(2,.lp 2 0),(6,.i .i64 y1),(7,.sl (some (3,0)) y6.length .op)],[(2,[.i .i64 y2,.i .u64 (U y3),.i .u64 (U y4),.i .i64 y5])],[(3,⟨true,true,5,1,enc c5 y6⟩),(1,tab64)],4,3⟩:=by
 obtain ⟨D,rfl⟩:=dex hD
 have cref13_Letter0:=eref13_Letter (D+2) (by omega) F
 intro f
 induction f with
 |zero=>intro v0 v1 v2 v3 v4 v5 v6 v7 s hs;simp only [evLoop,Pref13_ActL0]
 |succ f ih=>
 intro v0 v1 v2 v3 v4 v5 v6 v7 s hs
 obtain ⟨k0,hk,hn,he,hr⟩:=@lk_all (OV F (D+3)) 3 F a79L0 f K
 rw [loop_succ,hk,a79L0,runC_cutg,hs]
 clear hs
 simp only [Pref13_ActL0]
 clear hk
 by_cases h1:v2<v1
 rcases h2:(Pref13_Letter F v3 v4 v5 v6 v2) with _|r1
 rotate_left
 by_cases h3:v7.length≤140737488355327
 all_goals simp -implicitDefEqProofs only [*,-ih,vref13_Letter,EVA.down,ne_eq,seval]
 all_goals exact ih _ _ _ _ _ _ _ _ _ (by simp only [*,-ih,vref13_Letter,EVA.down,ne_eq,seval])
theorem lref13_ActL1 (D:Nat)(hD:3≤D)(F:Nat)(K:AE→AS→Option Res):∀ (f:Nat) (v0:List S83) (v1 v2 v3:Int) (v4 v5:BitVec 64) (v6:Int) (s:AS),s.keepG s.n0 [1,2,6,7,8] [2]=some ⟨[(1,.vs v0.length .unk (enc S83.cs v0)),(2,.lp 2 0),(6,.i .i64 v1),(7,.sl none 0 (.ex 0)),(8,.i .i64 v2)],[(2,[.i .i64 v3,.i .u64 (U v4),.i .u64 (U v5),.i .i64 v6])],[(1,tab64)],3,3⟩→
 evLoop (evC (OV F D) 3 F a79L0) f s K=match Pref13_ActL1 F f v0 v1 v2 v3 v4 v5 v6 with|none=>none|some (.inl (y0,y1,y2,y3,y4,y5))=>K (.ex 0) ⟨[(1,.vs y0.length .unk (enc S83.cs y0)),(2,.lp 2 0),(6,.i .i64 y1),(7,.sl none 0 (.ex 0))],[(2,[.i .i64 y2,.i .u64 (U y3),.i .u64 (U y4),.i .i64 y5])],[(1,tab64)],3,3⟩|some (.inr (y0,y1,y2,y3,y4,y5,y6))=>K (.ex 0) ⟨[(1,.vs y0.length .unk (enc S83.cs y0)),(2,.lp 2 0),(6,.i .i64 y1),(7,.sl (some (3,0)) y6.length .op)],[(2,[.i .i64 y2,.i .u64 (U y3),.i .u64 (U y4),.i .i64 y5])],[(3,⟨true,true,5,1,enc c5 y6⟩),(1,tab64)],4,3⟩:=by
 obtain ⟨D,rfl⟩:=dex hD
 have cref13_Letter0:=eref13_Letter (D+2) (by omega) F
 have nlref13_ActL0:=lref13_ActL0 (D+3) (by omega) F K
 intro f
 induction f with
 |zero=>intro v0 v1 v2 v3 v4 v5 v6 s hs;simp only [evLoop,Pref13_ActL1]
 |succ f ih=>
 intro v0 v1 v2 v3 v4 v5 v6 s hs
 obtain ⟨k0,hk,hn,he,hr⟩:=@lk_all (OV F (D+3)) 3 F a79L0 f K
 rw [loop_succ,hk,a79L0,runC_cutg,hs]
 clear hs
 simp only [Pref13_ActL1]
 clear hk
 by_cases h1:v2<v1
 rcases h2:(Pref13_Letter F v3 v4 v5 v6 v2) with _|r1
 all_goals simp -implicitDefEqProofs only [*,-ih,vref13_Letter,EVA.down,ne_eq,seval]
 all_goals exact nlref13_ActL0 f _ _ _ _ _ _ _ _ _ (by simp only [*,-ih,vref13_Letter,EVA.down,ne_eq,seval])
theorem lref13_ActL2 (D:Nat)(hD:0≤D)(F:Nat)(v0:List S83)(v1 v2 v3 v4 v5 v6:Int)(v7 v8:BitVec 64)(v9:Int)(v10:List S83)(K:AE→AS→Option Res):∀ (f:Nat) (s:AS),s.keepG s.n0 [1,2,6,7,9,10,11,12,13] [2]=some ⟨[(1,.vs v0.length .unk (enc S83.cs v0)),(2,.lp 2 0),(6,.i .i64 v1),(7,.sl none 0 (.ex 0)),(9,.sl (some (3,0)) v10.length (.ex (v10.length))),(10,.i .i64 v2),(11,.i .i64 v3),(12,.i .i64 v4),(13,.i .i64 v5)],[(2,[.i .i64 v6,.i .u64 (U v7),.i .u64 (U v8),.i .i64 v9])],[(3,⟨true,false,83,2,enc S83.cs v10⟩),(1,tab64)],4,3⟩→
 evLoop (evC (OV F D) 3 F a79L1) f s K=match Pref13_ActL2 v0 v1 v2 v3 v4 v5 v6 v7 v8 v9 v10 f with|none=>none|some (_)=>K (.ex 4) ⟨[(1,.vs v0.length .unk (enc S83.cs v0)),(2,.lp 2 0),(6,.i .i64 v1),(7,.sl none 0 (.ex 0)),(9,.sl (some (3,0)) v10.length (.ex (v10.length))),(10,.i .i64 v2),(11,.i .i64 v3),(12,.i .i64 v4)],[(2,[.i .i64 v6,.i .u64 (U v7),.i .u64 (U v8),.i .i64 v9])],[(3,⟨true,false,83,2,enc S83.cs v10⟩),(1,tab64)],4,3⟩:=by
 intro f
 induction f with
 |zero=>intro s hs;simp only [evLoop,Pref13_ActL2]
 |succ f ih=>
 intro s hs
 obtain ⟨k0,hk,hn,he,hr⟩:=@lk_all (OV F (D)) 3 F a79L1 f K
 rw [loop_succ,hk,a79L1,runC_cutg,hs]
 clear hs
 simp only [Pref13_ActL2]
 clear hk
 by_cases h1:v5<v1
 all_goals simp -implicitDefEqProofs only [*,-ih,EVA.down,ne_eq,seval]
theorem eref03_Turn (D:Nat)(hD:0≤D)(F:Nat)(a0_Re a0_Im:BitVec 64)(a1:Int)(q:Bool):evW 3 (OV F D) F a110 (some [.agg [.f .f64 (a0_Re).toNat,.f .f64 (a0_Im).toNat],.i .i64 a1]) q G0 =
 match Pref03_Turn a0_Re a0_Im a1 with|none=>none|some (r0,r1)=>some (.agg [.f .f64 (r0).toNat,.f .f64 (r1).toNat],none):=by
 have u2:AV.i .u64 2=.i .u64 (U 2#64):=id rfl
 have u3:AV.i .u64 3=.i .u64 (U 3#64):=id rfl
 have u4:AV.i .u64 4=.i .u64 (U 4#64):=id rfl
 have flf_0:AV.f .f64 0=.f .f64 (0#64).toNat:=id rfl
 have flx_0:∀ x,AV.c .f64 x 0=.c .f64 x (0#64).toNat:=fun _=>id rfl
 have fly_0:∀ x,AV.c .f64 0 x=.c .f64 (0#64).toNat x:=fun _=>id rfl
 rw [evW_some,G0]
 simp only [Pref03_Turn]
 by_cases h1:4#64=0#64
 replace h1:=eq_true h1
 rotate_left
 by_cases h2:((BitVec.ofInt 64 a1) % 4#64)=1#64
 replace h2:=eq_true h2
 rotate_left
 by_cases h3:((BitVec.ofInt 64 a1) % 4#64)=2#64
 replace h3:=eq_true h3
 rotate_left
 by_cases h4:((BitVec.ofInt 64 a1) % 4#64)=3#64
 replace h4:=eq_true h4
 all_goals simp -implicitDefEqProofs only [*,a110,flf_0,flx_0,fly_0,EVA.down,ne_eq,seval]
theorem vref03_Turn {D F n:Nat}{args:List AV}{h:AHeap}:OV F (D+1) 110 args h n (n+1)=evW 3 (OV F D) F a110 (frzs (frz true 0 (bif AV.nors args then [] else h) 8) args) (AV.nors args) (hglb h 3):=evV_frozen rfl
theorem eref03_Clean (D:Nat)(hD:0≤D)(F:Nat)(a0_Re a0_Im:BitVec 64)(q:Bool):evW 3 (OV F D) F a81 (some [.agg [.f .f64 (a0_Re).toNat,.f .f64 (a0_Im).toNat]]) q G0 =
 match Pref03_Clean a0_Re a0_Im with|(r0,r1)=>some (.agg [.f .f64 (r0).toNat,.f .f64 (r1).toNat],none):=by
 have flf_0:AV.f .f64 0=.f .f64 (0#64).toNat:=id rfl
 have flx_0:∀ x,AV.c .f64 x 0=.c .f64 x (0#64).toNat:=fun _=>id rfl
 have fly_0:∀ x,AV.c .f64 0 x=.c .f64 (0#64).toNat x:=fun _=>id rfl
 rw [evW_some,G0]
 skip
 all_goals simp -implicitDefEqProofs only [*,a81,Pref03_Clean,flf_0,flx_0,fly_0,EVA.down,ne_eq,seval]
theorem vref03_Clean {D F n:Nat}{args:List AV}{h:AHeap}:OV F (D+1) 81 args h n (n+1)=evW 3 (OV F D) F a81 (frzs (frz true 0 (bif AV.nors args then [] else h) 8) args) (AV.nors args) (hglb h 3):=evV_frozen rfl
theorem lref13_ActL3 (D:Nat)(hD:1≤D)(F:Nat)(v0:List S83)(v1 v3:Int)(v4 v5:BitVec 64)(v6:Int)(K:AE→AS→Option Res):∀ (f:Nat) (v2:Int) (v7:List S83) (s:AS),s.keepG s.n0 [1,2,6,7,9,10] [2]=some ⟨[(1,.vs v0.length .unk (enc S83.cs v0)),(2,.lp 2 0),(6,.i .i64 v1),(7,.sl none 0 (.ex 0)),(9,.sl (some (3,0)) v7.length (.ex (v7.length))),(10,.i .i64 v2)],[(2,[.i .i64 v3,.i .u64 (U v4),.i .u64 (U v5),.i .i64 v6])],[(3,⟨true,false,83,2,enc S83.cs v7⟩),(1,tab64)],4,3⟩→
 evLoop (evC (OV F D) 3 F a79L2) f s K=match Pref13_ActL3 F v0 v1 v3 v4 v5 v6 f v2 v7 with|none=>none|some (y0)=>K (.ex 2) ⟨[(9,.sl (some (3,0)) y0.length (.ex (y0.length)))],[],[(3,⟨true,false,83,2,enc S83.cs y0⟩),(1,tab64)],4,3⟩:=by
 obtain ⟨D,rfl⟩:=dex hD
 have cref03_Clean0:=eref03_Clean (D) (by omega) F
 have cref03_Turn0:=eref03_Turn (D) (by omega) F
 intro f
 induction f with
 |zero=>intro v2 v7 s hs;simp only [evLoop,Pref13_ActL3]
 |succ f ih=>
 intro v2 v7 s hs
 obtain ⟨k0,hk,hn,he,hr⟩:=@lk_all (OV F (D+1)) 3 F a79L2 f K
 rw [loop_succ,hk,a79L2,runC_cutg,hs]
 clear hs
 simp only [Pref13_ActL3]
 clear hk
 by_cases h1:v2<(v0.length:Int)
 simp -implicitDefEqProofs only [*,-ih,vref03_Clean,vref03_Turn,runC_loop,EVA.down,ne_eq,seval]
 rw [lref13_ActL2 (D+1) (by omega) F v0 v1 v2 v2 v6 0 v3 v4 v5 v6 v7 _ F  _ (by simp only [*,-ih,vref03_Clean,vref03_Turn,EVA.down,ne_eq,seval];try rfl)]
 rcases h2:(Pref13_ActL2 v0 v1 v2 v2 v6 0 v3 v4 v5 v6 v7 F) with _|_
 rotate_left
 rcases ixo (@pk_S83_cs v0 v2) with h3|⟨x1,h3⟩
 rotate_left
 rcases h4:(Pref03_Turn x1.f_Re x1.f_Im v6) with _|⟨r2,r3⟩
 rotate_left
 rcases h5:(Pref03_Clean r2 r3) with ⟨r4,r5⟩
 rcases ixo (@pk_S83_cs v7 v2) with h6|⟨x6,h6⟩
 rotate_left
 have h7:v2.toNat*2+2≤v7.length*2:=by have:=(idx_some h6.1).2.1;omega
 have h8:splice (enc S83.cs v7) (v2.toNat*2) [.f .f64 (r4).toNat,.f .f64 (r5).toNat]=enc S83.cs ((v7).set v2.toNat (⟨r4,r5⟩:S83)):=own_put len_S83_cs h6.1 (⟨r4,r5⟩:S83)
 all_goals simp -implicitDefEqProofs only [*,-ih,vref03_Clean,vref03_Turn,EVA.down,ne_eq,seval]
 all_goals exact ih _ _ _ (by simp only [*,-ih,vref03_Clean,vref03_Turn,EVA.down,ne_eq,seval])
theorem lref13_ActL4 (D:Nat)(hD:0≤D)(F:Nat)(v0:List S83)(v1 v2 v6:Int)(v7 v8:BitVec 64)(v9:Int)(v10:List Int)(v11:List S83)(K:AE→AS→Option Res):∀ (f:Nat) (v3 v4 v5:Int) (s:AS),s.keepG s.n0 [1,2,6,7,9,10,11,12,13] [2]=some ⟨[(1,.vs v0.length .unk (enc S83.cs v0)),(2,.lp 2 0),(6,.i .i64 v1),(7,.sl (some (3,0)) v10.length .op),(9,.sl (some (4,0)) v11.length (.ex (v11.length))),(10,.i .i64 v2),(11,.i .i64 v3),(12,.i .i64 v4),(13,.i .i64 v5)],[(2,[.i .i64 v6,.i .u64 (U v7),.i .u64 (U v8),.i .i64 v9])],[(3,⟨true,true,5,1,enc c5 v10⟩),(4,⟨true,false,83,2,enc S83.cs v11⟩),(1,tab64)],5,3⟩→
 evLoop (evC (OV F D) 3 F a79L1) f s K=match Pref13_ActL4 v0 v1 v2 v6 v7 v8 v9 v10 v11 f v3 v4 v5 with|none=>none|some (y0,y1)=>K (.ex 4) ⟨[(1,.vs v0.length .unk (enc S83.cs v0)),(2,.lp 2 0),(6,.i .i64 v1),(7,.sl (some (3,0)) v10.length .op),(9,.sl (some (4,0)) v11.length (.ex (v11.length))),(10,.i .i64 v2),(11,.i .i64 y0),(12,.i .i64 y1)],[(2,[.i .i64 v6,.i .u64 (U v7),.i .u64 (U v8),.i .i64 v9])],[(3,⟨true,true,5,1,enc c5 v10⟩),(4,⟨true,false,83,2,enc S83.cs v11⟩),(1,tab64)],5,3⟩:=by
 intro f
 induction f with
 |zero=>intro v3 v4 v5 s hs;simp only [evLoop,Pref13_ActL4]
 |succ f ih=>
 intro v3 v4 v5 s hs
 obtain ⟨k0,hk,hn,he,hr⟩:=@lk_all (OV F (D)) 3 F a79L1 f K
 rw [loop_succ,hk,a79L1,runC_cutg,hs]
 clear hs
 simp only [Pref13_ActL4]
 clear hk
 by_cases h1:v5<v1
 rcases ixo (@pk_c5 v10 v5) with h2|⟨x1,h2⟩
 rotate_left
 by_cases h3:x1=88
 replace h3:=eq_true h3
 rotate_left
 by_cases h4:x1=89
 replace h4:=eq_true h4
 by_cases h5:(bitop .and .i64 (v2.fdiv (2 ^ (min (U (BitVec.ofInt 64 v5)).toNat 64))) 1)=1
 replace h5:=eq_true h5
 rotate_left
 rotate_left
 by_cases h6:x1=90
 replace h6:=eq_true h6
 by_cases h7:(bitop .and .i64 (v2.fdiv (2 ^ (min (U (BitVec.ofInt 64 v5)).toNat 64))) 1)=1
 replace h7:=eq_true h7
 all_goals simp -implicitDefEqProofs only [*,-ih,EVA.down,ne_eq,seval]
 all_goals exact ih _ _ _ _ (by simp only [*,-ih,EVA.down,ne_eq,seval])
theorem lref13_ActL5 (D:Nat)(hD:1≤D)(F:Nat)(v0:List S83)(v1 v3:Int)(v4 v5:BitVec 64)(v6:Int)(v7:List Int)(K:AE→AS→Option Res):∀ (f:Nat) (v2:Int) (v8:List S83) (s:AS),s.keepG s.n0 [1,2,6,7,9,10] [2]=some ⟨[(1,.vs v0.length .unk (enc S83.cs v0)),(2,.lp 2 0),(6,.i .i64 v1),(7,.sl (some (3,0)) v7.length .op),(9,.sl (some (4,0)) v8.length (.ex (v8.length))),(10,.i .i64 v2)],[(2,[.i .i64 v3,.i .u64 (U v4),.i .u64 (U v5),.i .i64 v6])],[(3,⟨true,true,5,1,enc c5 v7⟩),(4,⟨true,false,83,2,enc S83.cs v8⟩),(1,tab64)],5,3⟩→
 evLoop (evC (OV F D) 3 F a79L2) f s K=match Pref13_ActL5 F v0 v1 v3 v4 v5 v6 v7 f v2 v8 with|none=>none|some (y0)=>K (.ex 2) ⟨[(9,.sl (some (3,0)) y0.length (.ex (y0.length)))],[],[(3,⟨true,false,83,2,enc S83.cs y0⟩),(1,tab64)],4,3⟩:=by
 obtain ⟨D,rfl⟩:=dex hD
 have cref03_Clean0:=eref03_Clean (D) (by omega) F
 have cref03_Turn0:=eref03_Turn (D) (by omega) F
 intro f
 induction f with
 |zero=>intro v2 v8 s hs;simp only [evLoop,Pref13_ActL5]
 |succ f ih=>
 intro v2 v8 s hs
 obtain ⟨k0,hk,hn,he,hr⟩:=@lk_all (OV F (D+1)) 3 F a79L2 f K
 rw [loop_succ,hk,a79L2,runC_cutg,hs]
 clear hs
 simp only [Pref13_ActL5]
 clear hk
 by_cases h1:v2<(v0.length:Int)
 simp -implicitDefEqProofs only [*,-ih,vref03_Clean,vref03_Turn,runC_loop,EVA.down,ne_eq,seval]
 rw [lref13_ActL4 (D+1) (by omega) F v0 v1 v2 v3 v4 v5 v6 v7 v8 _ F v2 v6 0 _ (by simp only [*,-ih,vref03_Clean,vref03_Turn,EVA.down,ne_eq,seval];try rfl)]
 rcases h2:(Pref13_ActL4 v0 v1 v2 v3 v4 v5 v6 v7 v8 F v2 v6 0) with _|⟨y1,y2⟩
 rotate_left
 rcases ixo (@pk_S83_cs v0 v2) with h3|⟨x3,h3⟩
 rotate_left
 rcases h4:(Pref03_Turn x3.f_Re x3.f_Im y2) with _|⟨r4,r5⟩
 rotate_left
 rcases h5:(Pref03_Clean r4 r5) with ⟨r6,r7⟩
 rcases ixo (@pk_S83_cs v8 y1) with h6|⟨x8,h6⟩
 rotate_left
 have h7:y1.toNat*2+2≤v8.length*2:=by have:=(idx_some h6.1).2.1;omega
 have h8:splice (enc S83.cs v8) (y1.toNat*2) [.f .f64 (r6).toNat,.f .f64 (r7).toNat]=enc S83.cs ((v8).set y1.toNat (⟨r6,r7⟩:S83)):=own_put len_S83_cs h6.1 (⟨r6,r7⟩:S83)
 all_goals simp -implicitDefEqProofs only [*,-ih,vref03_Clean,vref03_Turn,EVA.down,ne_eq,seval]
 all_goals exact ih _ _ _ (by simp only [*,-ih,vref03_Clean,vref03_Turn,EVA.down,ne_eq,seval])
theorem eref13_Act (D:Nat)(hD:3≤D)(F:Nat)(a0_N:Int)(a0_X a0_Z:BitVec 64)(a0_Phase:Int)(a1:List S83)(q:Bool):evW 3 (OV F D) F a79 (some [.agg [.i .i64 a0_N,.i .u64 (U a0_X),.i .u64 (U a0_Z),.i .i64 a0_Phase],.vs a1.length .unk (enc S83.cs a1)]) q G0 =
 match Pref13_Act F a0_N a0_X a0_Z a0_Phase a1 with|none=>none|some (r0,r1)=>some (.tup [.vs r0.length .unk (enc S83.cs r0),.i .i64 r1],none):=by
 obtain ⟨D,rfl⟩:=dex hD
 have flf_0:AV.f .f64 0=.f .f64 (0#64).toNat:=id rfl
 have flx_0:∀ x,AV.c .f64 x 0=.c .f64 x (0#64).toNat:=fun _=>id rfl
 have fly_0:∀ x,AV.c .f64 0 x=.c .f64 (0#64).toNat x:=fun _=>id rfl
 have cref13_Right0:=eref13_Right (D+2) (by omega) F
 have cref09_Qubits0:=eref09_Qubits (D+2) (by omega) F
 rw [evW_some,G0]
 simp only [Pref13_Act]
 rcases h1:(Pref09_Qubits F (a1.length:Int)) with _|r1
 rotate_left
 by_cases h2:r1<0
 rotate_left
 rcases h3:(Pref13_Right F a0_N a0_X a0_Z a0_Phase) with _|r2
 rotate_left
 rcases h4:(r2) with _|_
 rotate_left
 by_cases h5:a0_N=r1
 replace h5:=eq_true h5
 simp -implicitDefEqProofs only [*,a79,flf_0,flx_0,fly_0,vref13_Right,vref09_Qubits,runC_loop,EVA.down,ne_eq,seval]
 rw [lref13_ActL1 (D+3) (by omega) F  _ F a1 r1 0 a0_N a0_X a0_Z a0_Phase _ (by simp only [*,a79,flf_0,flx_0,fly_0,vref13_Right,vref09_Qubits,EVA.down,ne_eq,seval];try rfl)]
 rcases h6:(Pref13_ActL1 F F a1 r1 0 a0_N a0_X a0_Z a0_Phase) with _|(⟨y3,y4,y5,y6,y7,y8⟩|⟨y9,y10,y11,y12,y13,y14,y15⟩)
 rotate_left
 rcases h7:(mkOk 16 (y3.length:Int) (y3.length:Int)) with _|_
 rotate_left
 have h8:(List.replicate (y3.length) [.f .f64 (0#64).toNat,.f .f64 (0#64).toNat]).flatten=enc S83.cs (List.replicate y3.length (⟨0#64,0#64⟩:S83)):=enc_repl S83.cs _ ((⟨0#64,0#64⟩:S83):S83)
 have h9:∀ i,AV.sl (some (i,0)) (y3.length) (.ex (y3.length))=AV.sl (some (i,0)) (List.replicate y3.length (⟨0#64,0#64⟩:S83)).length (.ex (List.replicate y3.length (⟨0#64,0#64⟩:S83)).length):=by intro i;simp only [List.length_replicate]
 simp -implicitDefEqProofs only [*,a79,flf_0,flx_0,fly_0,vref13_Right,vref09_Qubits,runC_loop,EVA.down,ne_eq,seval]
 rw [lref13_ActL3 (D+3) (by omega) F y3 y4 y5 y6 y7 y8 _ F 0 (List.replicate y3.length (⟨0#64,0#64⟩:S83)) _ (by simp only [*,a79,flf_0,flx_0,fly_0,vref13_Right,vref09_Qubits,EVA.down,ne_eq,seval];try rfl)]
 rcases h10:(Pref13_ActL3 F y3 y4 y5 y6 y7 y8 F 0 (List.replicate y3.length (⟨0#64,0#64⟩:S83))) with _|y16
 rotate_left
 have h10l0:y16.length=(List.replicate y3.length (⟨0#64,0#64⟩:S83)).length:=by have q:=lref13_ActL3n0_0 F y3 y4 y5 y6 y7 y8 F 0 (List.replicate y3.length (⟨0#64,0#64⟩:S83)) y16 h10;simpa only [List.length_set] using q
 have h10t0:=len_facts h10l0
 rotate_left
 rcases h11:(mkOk 16 (y9.length:Int) (y9.length:Int)) with _|_
 rotate_left
 have h12:(List.replicate (y9.length) [.f .f64 (0#64).toNat,.f .f64 (0#64).toNat]).flatten=enc S83.cs (List.replicate y9.length (⟨0#64,0#64⟩:S83)):=enc_repl S83.cs _ ((⟨0#64,0#64⟩:S83):S83)
 have h13:∀ i,AV.sl (some (i,0)) (y9.length) (.ex (y9.length))=AV.sl (some (i,0)) (List.replicate y9.length (⟨0#64,0#64⟩:S83)).length (.ex (List.replicate y9.length (⟨0#64,0#64⟩:S83)).length):=by intro i;simp only [List.length_replicate]
 simp -implicitDefEqProofs only [*,a79,flf_0,flx_0,fly_0,vref13_Right,vref09_Qubits,runC_loop,EVA.down,ne_eq,seval]
 rw [lref13_ActL5 (D+3) (by omega) F y9 y10 y11 y12 y13 y14 y15 _ F 0 (List.replicate y9.length (⟨0#64,0#64⟩:S83)) _ (by simp only [*,a79,flf_0,flx_0,fly_0,vref13_Right,vref09_Qubits,EVA.down,ne_eq,seval];try rfl)]
 rcases h14:(Pref13_ActL5 F y9 y10 y11 y12 y13 y14 y15 F 0 (List.replicate y9.length (⟨0#64,0#64⟩:S83))) with _|y17
 all_goals simp -implicitDefEqProofs only [*,a79,flf_0,flx_0,fly_0,vref13_Right,vref09_Qubits,EVA.down,ne_eq,seval]
theorem vref13_Act {D F n:Nat}{args:List AV}{h:AHeap}:OV F (D+1) 79 args h n (n+1)=evW 3 (OV F D) F a79 (frzs (frz true 0 (bif AV.nors args then [] else h) 8) args) (AV.nors args) (hglb h 3):=evV_frozen rfl
theorem eref03_Add (D:Nat)(hD:0≤D)(F:Nat)(a0_Re a0_Im a1_Re a1_Im:BitVec 64)(q:Bool):evW 3 (OV F D) F a80 (some [.agg [.f .f64 (a0_Re).toNat,.f .f64 (a0_Im).toNat],.agg [.f .f64 (a1_Re).toNat,.f .f64 (a1_Im).toNat]]) q G0 =
 match Pref03_Add a0_Re a0_Im a1_Re a1_Im with|(r0,r1)=>some (.agg [.f .f64 (r0).toNat,.f .f64 (r1).toNat],none):=by
 have flf_0:AV.f .f64 0=.f .f64 (0#64).toNat:=id rfl
 have flx_0:∀ x,AV.c .f64 x 0=.c .f64 x (0#64).toNat:=fun _=>id rfl
 have fly_0:∀ x,AV.c .f64 0 x=.c .f64 (0#64).toNat x:=fun _=>id rfl
 rw [evW_some,G0]
 skip
 all_goals simp -implicitDefEqProofs only [*,a80,Pref03_Add,flf_0,flx_0,fly_0,EVA.down,ne_eq,seval]
theorem vref03_Add {D F n:Nat}{args:List AV}{h:AHeap}:OV F (D+1) 80 args h n (n+1)=evW 3 (OV F D) F a80 (frzs (frz true 0 (bif AV.nors args then [] else h) 8) args) (AV.nors args) (hglb h 3):=evV_frozen rfl
theorem lref15_halfL0 (D:Nat)(hD:1≤D)(F:Nat)(K:AE→AS→Option Res):∀ (f:Nat) (v0 v1:List S83) (v2:Int) (v3:List S83) (s:AS),s.keepG s.n0 [1,5,7,8] []=some ⟨[(1,.vs v0.length .unk (enc S83.cs v0)),(5,.vs v1.length .unk (enc S83.cs v1)),(7,.sl (some (3,0)) v3.length .op),(8,.i .i64 v2)],[],[(3,⟨true,true,83,2,enc S83.cs v3⟩),(1,tab64)],4,3⟩→
 evLoop (evC (OV F D) 3 F a31L0) f s K=match Pref15_halfL0 f v0 v1 v2 v3 with|none=>none|some (.inl _)=>K (.ex 0) ⟨[(7,.sl none 0 (.ex 0))],[],[(1,tab64)],3,3⟩|some (.inr y0)=>K (.ex 0) ⟨[(7,.sl (some (3,0)) y0.length .op)],[],[(3,⟨true,true,83,2,enc S83.cs y0⟩),(1,tab64)],4,3⟩:=by
 obtain ⟨D,rfl⟩:=dex hD
 have flf_0:AV.f .f64 0=.f .f64 (0#64).toNat:=id rfl
 have flx_0:∀ x,AV.c .f64 x 0=.c .f64 x (0#64).toNat:=fun _=>id rfl
 have fly_0:∀ x,AV.c .f64 0 x=.c .f64 (0#64).toNat x:=fun _=>id rfl
 have flf_4602678819172646912:AV.f .f64 4602678819172646912=.f .f64 (4602678819172646912#64).toNat:=id rfl
 have flx_4602678819172646912:∀ x,AV.c .f64 x 4602678819172646912=.c .f64 x (4602678819172646912#64).toNat:=fun _=>id rfl
 have fly_4602678819172646912:∀ x,AV.c .f64 4602678819172646912 x=.c .f64 (4602678819172646912#64).toNat x:=fun _=>id rfl
 have cref03_Add0:=eref03_Add (D) (by omega) F
 have cref03_Clean0:=eref03_Clean (D) (by omega) F
 intro f
 induction f with
 |zero=>intro v0 v1 v2 v3 s hs;simp only [evLoop,Pref15_halfL0]
 |succ f ih=>
 intro v0 v1 v2 v3 s hs
 obtain ⟨k0,hk,hn,he,hr⟩:=@lk_all (OV F (D+1)) 3 F a31L0 f K
 rw [loop_succ,hk,a31L0,runC_cutg,hs]
 clear hs
 simp only [Pref15_halfL0]
 clear hk
 by_cases h1:v2<(v0.length:Int)
 rcases ixo (@pk_S83_cs v0 v2) with h2|⟨x1,h2⟩
 rotate_left
 rcases ixo (@pk_S83_cs v1 v2) with h3|⟨x2,h3⟩
 rotate_left
 rcases h4:(Pref03_Add x1.f_Re x1.f_Im x2.f_Re x2.f_Im) with ⟨r3,r4⟩
 rcases h5:(Pref03_Clean (fMul r3 4602678819172646912#64) (fMul r4 4602678819172646912#64)) with ⟨r5,r6⟩
 by_cases h6:(v3.length+1)*16≤140737488355328
 all_goals simp -implicitDefEqProofs only [*,-ih,flf_0,flx_0,fly_0,flf_4602678819172646912,flx_4602678819172646912,fly_4602678819172646912,vref03_Add,vref03_Clean,EVA.down,ne_eq,seval]
 all_goals exact ih _ _ _ _ _ (by simp only [*,-ih,flf_0,flx_0,fly_0,flf_4602678819172646912,flx_4602678819172646912,fly_4602678819172646912,vref03_Add,vref03_Clean,EVA.down,ne_eq,seval])
theorem lref15_halfL1 (D:Nat)(hD:1≤D)(F:Nat)(K:AE→AS→Option Res):∀ (f:Nat) (v0 v1:List S83) (v2:Int) (s:AS),s.keepG s.n0 [1,5,7,8] []=some ⟨[(1,.vs v0.length .unk (enc S83.cs v0)),(5,.vs v1.length .unk (enc S83.cs v1)),(7,.sl none 0 (.ex 0)),(8,.i .i64 v2)],[],[(1,tab64)],3,3⟩→
 evLoop (evC (OV F D) 3 F a31L0) f s K=match Pref15_halfL1 f v0 v1 v2 with|none=>none|some (.inl _)=>K (.ex 0) ⟨[(7,.sl none 0 (.ex 0))],[],[(1,tab64)],3,3⟩|some (.inr y0)=>K (.ex 0) ⟨[(7,.sl (some (3,0)) y0.length .op)],[],[(3,⟨true,true,83,2,enc S83.cs y0⟩),(1,tab64)],4,3⟩:=by
 obtain ⟨D,rfl⟩:=dex hD
 have flf_0:AV.f .f64 0=.f .f64 (0#64).toNat:=id rfl
 have flx_0:∀ x,AV.c .f64 x 0=.c .f64 x (0#64).toNat:=fun _=>id rfl
 have fly_0:∀ x,AV.c .f64 0 x=.c .f64 (0#64).toNat x:=fun _=>id rfl
 have flf_4602678819172646912:AV.f .f64 4602678819172646912=.f .f64 (4602678819172646912#64).toNat:=id rfl
 have flx_4602678819172646912:∀ x,AV.c .f64 x 4602678819172646912=.c .f64 x (4602678819172646912#64).toNat:=fun _=>id rfl
 have fly_4602678819172646912:∀ x,AV.c .f64 4602678819172646912 x=.c .f64 (4602678819172646912#64).toNat x:=fun _=>id rfl
 have cref03_Add0:=eref03_Add (D) (by omega) F
 have cref03_Clean0:=eref03_Clean (D) (by omega) F
 have nlref15_halfL0:=lref15_halfL0 (D+1) (by omega) F K
 intro f
 induction f with
 |zero=>intro v0 v1 v2 s hs;simp only [evLoop,Pref15_halfL1]
 |succ f ih=>
 intro v0 v1 v2 s hs
 obtain ⟨k0,hk,hn,he,hr⟩:=@lk_all (OV F (D+1)) 3 F a31L0 f K
 rw [loop_succ,hk,a31L0,runC_cutg,hs]
 clear hs
 simp only [Pref15_halfL1]
 clear hk
 by_cases h1:v2<(v0.length:Int)
 rcases ixo (@pk_S83_cs v0 v2) with h2|⟨x1,h2⟩
 rotate_left
 rcases ixo (@pk_S83_cs v1 v2) with h3|⟨x2,h3⟩
 rotate_left
 rcases h4:(Pref03_Add x1.f_Re x1.f_Im x2.f_Re x2.f_Im) with ⟨r3,r4⟩
 rcases h5:(Pref03_Clean (fMul r3 4602678819172646912#64) (fMul r4 4602678819172646912#64)) with ⟨r5,r6⟩
 all_goals simp -implicitDefEqProofs only [*,-ih,flf_0,flx_0,fly_0,flf_4602678819172646912,flx_4602678819172646912,fly_4602678819172646912,vref03_Add,vref03_Clean,EVA.down,ne_eq,seval]
 all_goals exact nlref15_halfL0 f _ _ _ _ _ (by simp only [*,-ih,flf_0,flx_0,fly_0,flf_4602678819172646912,flx_4602678819172646912,fly_4602678819172646912,vref03_Add,vref03_Clean,EVA.down,ne_eq,seval])
theorem eref15_half (D:Nat)(hD:4≤D)(F:Nat)(a0_N:Int)(a0_X a0_Z:BitVec 64)(a0_Phase:Int)(a1:List S83)(q:Bool):evW 3 (OV F D) F a31 (some [.agg [.i .i64 a0_N,.i .u64 (U a0_X),.i .u64 (U a0_Z),.i .i64 a0_Phase],.vs a1.length .unk (enc S83.cs a1)]) q G0 =
 match Pref15_half F a0_N a0_X a0_Z a0_Phase a1 with|none=>none|some r0=>some (.vs r0.length .unk (enc S83.cs r0),none):=by
 obtain ⟨D,rfl⟩:=dex hD
 have cref13_Act0:=eref13_Act (D+3) (by omega) F
 rw [evW_some,G0]
 simp only [Pref15_half]
 rcases h1:(Pref13_Act F a0_N a0_X a0_Z a0_Phase a1) with _|⟨r1,r2⟩
 rotate_left
 simp -implicitDefEqProofs only [*,a31,vref13_Act,runC_loop,EVA.down,ne_eq,seval]
 rw [lref15_halfL1 (D+4) (by omega) F  _ F a1 r1 0 _ (by simp only [*,a31,vref13_Act,EVA.down,ne_eq,seval];try rfl)]
 rcases h2:(Pref15_halfL1 F a1 r1 0) with _|(_|y3)
 all_goals simp -implicitDefEqProofs only [*,a31,vref13_Act,EVA.down,ne_eq,seval]
theorem vref15_half {D F n:Nat}{args:List AV}{h:AHeap}:OV F (D+1) 31 args h n (n+1)=evW 3 (OV F D) F a31 (frzs (frz true 0 (bif AV.nors args then [] else h) 8) args) (AV.nors args) (hglb h 3):=evV_frozen rfl
theorem lref15_StateL0 (D:Nat)(hD:5≤D)(F:Nat)(v0 v3:Int)(v4 v5:List Pl)(K:AE→AS→Option Res):∀ (f:Nat) (v1:List S83) (v2:Int) (s:AS),s.keep [1,4,5,7] [1]=some ⟨[(1,.lp 1 0),(4,.i .i64 v0),(5,.vs v1.length .unk (enc S83.cs v1)),(7,.i .i64 v2)],[(1,[.i .i64 v3,.vs v4.length .unk (enc Pl.cells v4),.vs v5.length .unk (enc Pl.cells v5)])],[(1,tab64)],3,3⟩→
 evLoop (evC (OV F D) 3 F a8L0) f s K=match Pref15_StateL0 F v0 v3 v4 v5 f v1 v2 with|none=>none|some (y0)=>K (.ex 2) ⟨[(1,.lp 1 0),(4,.i .i64 v0),(5,.vs y0.length .unk (enc S83.cs y0))],[(1,[.i .i64 v3,.vs v4.length .unk (enc Pl.cells v4),.vs v5.length .unk (enc Pl.cells v5)])],[(1,tab64)],3,3⟩:=by
 obtain ⟨D,rfl⟩:=dex hD
 have cref15_none0:=eref15_none (D+4) (by omega) F
 have cref15_half0:=eref15_half (D+4) (by omega) F
 intro f
 induction f with
 |zero=>intro v1 v2 s hs;simp only [evLoop,Pref15_StateL0]
 |succ f ih=>
 intro v1 v2 s hs
 obtain ⟨k0,hk,hn,he,hr⟩:=@lk_all (OV F (D+5)) 3 F a8L0 f K
 rw [loop_succ,hk,a8L0,runC_cut,hs]
 clear hs
 simp only [Pref15_StateL0]
 clear hk
 by_cases h1:v2<v3
 rcases h2:(Pref15_none F v1) with _|r1
 rotate_left
 rcases h3:(r1) with _|_
 rcases ixo (@pk_Pl_cells v4 v2) with h4|⟨x2,h4⟩
 rotate_left
 rcases h5:(Pref15_half F x2.N x2.X x2.Z x2.Ph v1) with _|r3
 all_goals simp -implicitDefEqProofs only [*,-ih,vref15_none,vref15_half,EVA.down,ne_eq,seval]
 all_goals exact ih _ _ _ (by simp only [*,-ih,vref15_none,vref15_half,EVA.down,ne_eq,seval])
theorem lref15_StateL1 (D:Nat)(hD:5≤D)(F:Nat)(v1:Int)(v2 v3:List Pl)(K:AE→AS→Option Res):∀ (f:Nat) (v0:Int) (s:AS),s.keep [1,4] [1]=some ⟨[(1,.lp 1 0),(4,.i .i64 v0)],[(1,[.i .i64 v1,.vs v2.length .unk (enc Pl.cells v2),.vs v3.length .unk (enc Pl.cells v3)])],[(1,tab64)],3,3⟩→
 evLoop (evC (OV F D) 3 F a8L1) f s K=match Pref15_StateL1 F v1 v2 v3 f v0 with|none=>none|some (.inl y0)=>K .ret ⟨[(2,.vs y0.length .unk (enc S83.cs y0)),(3,.i .i64 (0))],[],[(1,tab64)],3,3⟩|some (.inr _)=>K (.ex 0) ⟨[],[],[(1,tab64)],3,3⟩:=by
 obtain ⟨D,rfl⟩:=dex hD
 have cref09_Basis0:=eref09_Basis (D+4) (by omega) F
 have cref15_none0:=eref15_none (D+4) (by omega) F
 intro f
 induction f with
 |zero=>intro v0 s hs;simp only [evLoop,Pref15_StateL1]
 |succ f ih=>
 intro v0 s hs
 obtain ⟨k0,hk,hn,he,hr⟩:=@lk_all (OV F (D+5)) 3 F a8L1 f K
 rw [loop_succ,hk,a8L1,runC_cut,hs]
 clear hs
 simp only [Pref15_StateL1]
 clear hk
 by_cases h1:v0<(IntKind.i64.wrap (1*2 ^ (min (U (BitVec.ofInt 64 v1)).toNat 64)))
 rcases h2:(Pref09_Basis v1 v0) with _|⟨r1,r2⟩
 rotate_left
 simp -implicitDefEqProofs only [*,-ih,vref09_Basis,vref15_none,runC_loop,EVA.down,ne_eq,seval]
 rw [lref15_StateL0 (D+5) (by omega) F v0 v1 v2 v3 _ F r1 0 _ (by simp only [*,-ih,vref09_Basis,vref15_none,EVA.down,ne_eq,seval];try rfl)]
 rcases h3:(Pref15_StateL0 F v0 v1 v2 v3 F r1 0) with _|y3
 rotate_left
 rcases h4:(Pref15_none F y3) with _|r4
 rotate_left
 rcases h5:(r4) with _|_
 all_goals simp -implicitDefEqProofs only [*,-ih,vref09_Basis,vref15_none,EVA.down,ne_eq,seval]
 all_goals exact ih _ _ (by simp only [*,-ih,vref09_Basis,vref15_none,EVA.down,ne_eq,seval])
theorem eref15_State (D:Nat)(hD:5≤D)(F:Nat)(a0_N:Int)(a0_Stab a0_Destab:List Pl):evW 3 (OV F D) F a8 (some [.agg [.i .i64 a0_N,.vs a0_Stab.length .unk (enc Pl.cells a0_Stab),.vs a0_Destab.length .unk (enc Pl.cells a0_Destab)]]) true G0 =
 match Pref15_State F a0_N a0_Stab a0_Destab with|none=>none|some (r0,r1)=>some (.tup [.vs r0.length .unk (enc S83.cs r0),.i .i64 r1],none):=by
 obtain ⟨D,rfl⟩:=dex hD
 have cref14_Right0:=eref14_Right (D+4) (by omega) F
 rw [evW_some,G0]
 simp only [Pref15_State]
 rcases h1:(Pref14_Right F a0_N a0_Stab a0_Destab) with _|r1
 rotate_left
 rcases h2:(r1) with _|_
 rotate_left
 by_cases h3:a0_N>12
 rotate_left
 simp -implicitDefEqProofs only [*,a8,vref14_Right,runC_loop,EVA.down,ne_eq,seval]
 rw [lref15_StateL1 (D+5) (by omega) F a0_N a0_Stab a0_Destab _ F 0 _ (by simp only [*,a8,vref14_Right,EVA.down,ne_eq,seval];try rfl)]
 rcases h4:(Pref15_StateL1 F a0_N a0_Stab a0_Destab F 0) with _|(y2|_)
 all_goals simp -implicitDefEqProofs only [*,a8,vref14_Right,EVA.down,ne_eq,seval]
theorem vref15_State {D F n:Nat}{args:List AV}{h:AHeap}:OV F (D+1) 8 args h n (n+1)=evW 3 (OV F D) F a8 (frzs (frz true 0 (bif AV.nors args then [] else h) 8) args) (AV.nors args) (hglb h 3):=evV_frozen rfl
theorem elaw03_Z (D:Nat)(hD:0≤D)(F:Nat)(a0_re a0_im:BitVec 64)(q:Bool):evW 3 (OV F D) F a33 (some [.c .f64 (a0_re).toNat (a0_im).toNat]) q G0 =
 match Plaw03_Z a0_re a0_im with|(r0,r1)=>some (.agg [.f .f64 (r0).toNat,.f .f64 (r1).toNat],none):=by
 have flf_0:AV.f .f64 0=.f .f64 (0#64).toNat:=id rfl
 have flx_0:∀ x,AV.c .f64 x 0=.c .f64 x (0#64).toNat:=fun _=>id rfl
 have fly_0:∀ x,AV.c .f64 0 x=.c .f64 (0#64).toNat x:=fun _=>id rfl
 rw [evW_some,G0]
 skip
 all_goals simp -implicitDefEqProofs (maxSteps:=4000000) only [*,a33,Plaw03_Z,flf_0,flx_0,fly_0,EVA.down,ne_eq,seval]
theorem vlaw03_Z {D F n:Nat}{args:List AV}{h:AHeap}:OV F (D+1) 33 args h n (n+1)=evW 3 (OV F D) F a33 (frzs (frz true 0 (bif AV.nors args then [] else h) 8) args) (AV.nors args) (hglb h 3):=evV_frozen rfl
theorem llaw03_ZsL0 (D:Nat)(hD:1≤D)(F:Nat)(K:AE→AS→Option Res):∀ (f:Nat) (v0:List Cpx) (v1:Int) (v2:List S83) (s:AS),s.keepG s.n0 [0,3,4] []=some ⟨[(0,.vs v0.length .unk (enc Cpx.cells v0)),(3,.sl (some (3,0)) v2.length .op),(4,.i .i64 v1)],[],[(3,⟨true,true,83,2,enc S83.cs v2⟩),(1,tab64)],4,3⟩→
 evLoop (evC (OV F D) 3 F a10L0) f s K=match Plaw03_ZsL0 f v0 v1 v2 with|none=>none|some (.inl _)=>K (.ex 0) ⟨[(3,.sl none 0 (.ex 0))],[],[(1,tab64)],3,3⟩|some (.inr y0)=>K (.ex 0) ⟨[(3,.sl (some (3,0)) y0.length .op)],[],[(3,⟨true,true,83,2,enc S83.cs y0⟩),(1,tab64)],4,3⟩:=by
 obtain ⟨D,rfl⟩:=dex hD
 have flf_0:AV.f .f64 0=.f .f64 (0#64).toNat:=id rfl
 have flx_0:∀ x,AV.c .f64 x 0=.c .f64 x (0#64).toNat:=fun _=>id rfl
 have fly_0:∀ x,AV.c .f64 0 x=.c .f64 (0#64).toNat x:=fun _=>id rfl
 have claw03_Z0:=elaw03_Z (D) (by omega) F
 intro f
 induction f with
 |zero=>intro v0 v1 v2 s hs;simp only [evLoop,Plaw03_ZsL0]
 |succ f ih=>
 intro v0 v1 v2 s hs
 obtain ⟨k0,hk,hn,he,hr⟩:=@lk_all (OV F (D+1)) 3 F a10L0 f K
 rw [loop_succ,hk,a10L0,runC_cutg,hs]
 clear hs
 simp only [Plaw03_ZsL0]
 clear hk
 by_cases h1:v1<(v0.length:Int)
 rcases ixo (@pk_Cpx_cells v0 v1) with h2|⟨x1,h2⟩
 rotate_left
 rcases h3:(Plaw03_Z x1.re x1.im) with ⟨r2,r3⟩
 by_cases h4:(v2.length+1)*16≤140737488355328
 all_goals simp -implicitDefEqProofs (maxSteps:=4000000) only [*,-ih,flf_0,flx_0,fly_0,vlaw03_Z,EVA.down,ne_eq,seval]
 all_goals exact ih _ _ _ _ (by simp only [*,-ih,flf_0,flx_0,fly_0,vlaw03_Z,EVA.down,ne_eq,seval])
theorem llaw03_ZsL1 (D:Nat)(hD:1≤D)(F:Nat)(K:AE→AS→Option Res):∀ (f:Nat) (v0:List Cpx) (v1:Int) (s:AS),s.keepG s.n0 [0,3,4] []=some ⟨[(0,.vs v0.length .unk (enc Cpx.cells v0)),(3,.sl none 0 (.ex 0)),(4,.i .i64 v1)],[],[(1,tab64)],3,3⟩→
 evLoop (evC (OV F D) 3 F a10L0) f s K=match Plaw03_ZsL1 f v0 v1 with|none=>none|some (.inl _)=>K (.ex 0) ⟨[(3,.sl none 0 (.ex 0))],[],[(1,tab64)],3,3⟩|some (.inr y0)=>K (.ex 0) ⟨[(3,.sl (some (3,0)) y0.length .op)],[],[(3,⟨true,true,83,2,enc S83.cs y0⟩),(1,tab64)],4,3⟩:=by
 obtain ⟨D,rfl⟩:=dex hD
 have flf_0:AV.f .f64 0=.f .f64 (0#64).toNat:=id rfl
 have flx_0:∀ x,AV.c .f64 x 0=.c .f64 x (0#64).toNat:=fun _=>id rfl
 have fly_0:∀ x,AV.c .f64 0 x=.c .f64 (0#64).toNat x:=fun _=>id rfl
 have claw03_Z0:=elaw03_Z (D) (by omega) F
 have nllaw03_ZsL0:=llaw03_ZsL0 (D+1) (by omega) F K
 intro f
 induction f with
 |zero=>intro v0 v1 s hs;simp only [evLoop,Plaw03_ZsL1]
 |succ f ih=>
 intro v0 v1 s hs
 obtain ⟨k0,hk,hn,he,hr⟩:=@lk_all (OV F (D+1)) 3 F a10L0 f K
 rw [loop_succ,hk,a10L0,runC_cutg,hs]
 clear hs
 simp only [Plaw03_ZsL1]
 clear hk
 by_cases h1:v1<(v0.length:Int)
 rcases ixo (@pk_Cpx_cells v0 v1) with h2|⟨x1,h2⟩
 rotate_left
 rcases h3:(Plaw03_Z x1.re x1.im) with ⟨r2,r3⟩
 all_goals simp -implicitDefEqProofs (maxSteps:=4000000) only [*,-ih,flf_0,flx_0,fly_0,vlaw03_Z,EVA.down,ne_eq,seval]
 all_goals exact nllaw03_ZsL0 f _ _ _ _ (by simp only [*,-ih,flf_0,flx_0,fly_0,vlaw03_Z,EVA.down,ne_eq,seval])
theorem elaw03_Zs (D:Nat)(hD:1≤D)(F:Nat)(a0:List Cpx)(q:Bool):evW 3 (OV F D) F a10 (some [.vs a0.length .unk (enc Cpx.cells a0)]) q G0 =
 match Plaw03_Zs F a0 with|none=>none|some r0=>some (.vs r0.length .unk (enc S83.cs r0),none):=by
 obtain ⟨D,rfl⟩:=dex hD
 rw [evW_some,G0]
 simp only [Plaw03_Zs]
 simp -implicitDefEqProofs (maxSteps:=4000000) only [*,a10,runC_loop,EVA.down,ne_eq,seval]
 rw [llaw03_ZsL1 (D+1) (by omega) F  _ F a0 0 _ (by simp only [*,a10,EVA.down,ne_eq,seval];try rfl)]
 rcases h1:(Plaw03_ZsL1 F a0 0) with _|(_|y1)
 all_goals simp -implicitDefEqProofs (maxSteps:=4000000) only [*,a10,EVA.down,ne_eq,seval]
theorem vlaw03_Zs {D F n:Nat}{args:List AV}{h:AHeap}:OV F (D+1) 10 args h n (n+1)=evW 3 (OV F D) F a10 (frzs (frz true 0 (bif AV.nors args then [] else h) 8) args) (AV.nors args) (hglb h 3):=evV_frozen rfl
theorem eref01_Bits64 (D:Nat)(hD:0≤D)(F:Nat)(a0:BitVec 64)(q:Bool):evW 3 (OV F D) F a111 (some [.f .f64 (a0).toNat]) q G0 =
 match Pref01_Bits64 a0 with|none=>none|some r0=>some (.i .u64 (U r0),none):=by
 have u9221120237041090561:AV.i .u64 9221120237041090561=.i .u64 (U 9221120237041090561#64):=id rfl
 rw [evW_some,G0]
 simp only [Pref01_Bits64]
 rcases h1:(fCmp .neq a0 a0) with _|_
 rcases h2:(fNaN a0) with _|_
 all_goals simp -implicitDefEqProofs only [*,a111,EVA.down,ne_eq,seval]
theorem vref01_Bits64 {D F n:Nat}{args:List AV}{h:AHeap}:OV F (D+1) 111 args h n (n+1)=evW 3 (OV F D) F a111 (frzs (frz true 0 (bif AV.nors args then [] else h) 8) args) (AV.nors args) (hglb h 3):=evV_frozen rfl
theorem eref01_Same (D:Nat)(hD:1≤D)(F:Nat)(a0 a1:BitVec 64)(q:Bool):evW 3 (OV F D) F a82 (some [.f .f64 (a0).toNat,.f .f64 (a1).toNat]) q G0 =
 match Pref01_Same a0 a1 with|none=>none|some r0=>some (.b r0,none):=by
 obtain ⟨D,rfl⟩:=dex hD
 have cref01_Bits640:=eref01_Bits64 (D) (by omega) F
 rw [evW_some,G0]
 simp only [Pref01_Same]
 rcases h1:(Pref01_Bits64 a0) with _|r1
 rotate_left
 rcases h2:(Pref01_Bits64 a1) with _|r2
 all_goals simp -implicitDefEqProofs only [*,a82,vref01_Bits64,EVA.down,ne_eq,seval]
theorem vref01_Same {D F n:Nat}{args:List AV}{h:AHeap}:OV F (D+1) 82 args h n (n+1)=evW 3 (OV F D) F a82 (frzs (frz true 0 (bif AV.nors args then [] else h) 8) args) (AV.nors args) (hglb h 3):=evV_frozen rfl
theorem eref03_Same (D:Nat)(hD:2≤D)(F:Nat)(a0_Re a0_Im a1_Re a1_Im:BitVec 64)(q:Bool):evW 3 (OV F D) F a32 (some [.agg [.f .f64 (a0_Re).toNat,.f .f64 (a0_Im).toNat],.agg [.f .f64 (a1_Re).toNat,.f .f64 (a1_Im).toNat]]) q G0 =
 match Pref03_Same a0_Re a0_Im a1_Re a1_Im with|none=>none|some r0=>some (.b r0,none):=by
 obtain ⟨D,rfl⟩:=dex hD
 have cref01_Same0:=eref01_Same (D+1) (by omega) F
 rw [evW_some,G0]
 simp only [Pref03_Same]
 rcases h1:(Pref01_Same a0_Re a1_Re) with _|r1
 rotate_left
 rcases h2:(r1) with _|_
 rotate_left
 rcases h3:(Pref01_Same a0_Im a1_Im) with _|r2
 all_goals simp -implicitDefEqProofs only [*,a32,vref01_Same,EVA.down,ne_eq,seval]
theorem vref03_Same {D F n:Nat}{args:List AV}{h:AHeap}:OV F (D+1) 32 args h n (n+1)=evW 3 (OV F D) F a32 (frzs (frz true 0 (bif AV.nors args then [] else h) 8) args) (AV.nors args) (hglb h 3):=evV_frozen rfl
theorem lref07_RowsL0 (D:Nat)(hD:3≤D)(F:Nat)(v0 v1:List S83)(K:AE→AS→Option Res):∀ (f:Nat) (v2:Int) (s:AS),s.keep [0,1,5] []=some ⟨[(0,.vs v0.length .unk (enc S83.cs v0)),(1,.vs v1.length .unk (enc S83.cs v1)),(5,.i .i64 v2)],[],[(1,tab64)],3,3⟩→
 evLoop (evC (OV F D) 3 F a9L0) f s K=match Pref07_RowsL0 v0 v1 f v2 with|none=>none|some (.inl _)=>K .ret ⟨[(4,.b false)],[],[(1,tab64)],3,3⟩|some (.inr _)=>K (.ex 0) ⟨[],[],[(1,tab64)],3,3⟩:=by
 obtain ⟨D,rfl⟩:=dex hD
 have cref03_Same0:=eref03_Same (D+2) (by omega) F
 intro f
 induction f with
 |zero=>intro v2 s hs;simp only [evLoop,Pref07_RowsL0]
 |succ f ih=>
 intro v2 s hs
 obtain ⟨k0,hk,hn,he,hr⟩:=@lk_all (OV F (D+3)) 3 F a9L0 f K
 rw [loop_succ,hk,a9L0,runC_cut,hs]
 clear hs
 simp only [Pref07_RowsL0]
 clear hk
 by_cases h1:v2<(v0.length:Int)
 rcases ixo (@pk_S83_cs v0 v2) with h2|⟨x1,h2⟩
 rotate_left
 rcases ixo (@pk_S83_cs v1 v2) with h3|⟨x2,h3⟩
 rotate_left
 rcases h4:(Pref03_Same x1.f_Re x1.f_Im x2.f_Re x2.f_Im) with _|r3
 rotate_left
 rcases h5:(r3) with _|_
 all_goals simp -implicitDefEqProofs only [*,-ih,vref03_Same,EVA.down,ne_eq,seval]
 all_goals exact ih _ _ (by simp only [*,-ih,vref03_Same,EVA.down,ne_eq,seval])
theorem eref07_Rows (D:Nat)(hD:3≤D)(F:Nat)(a0 a1:List S83)(q:Bool):evW 3 (OV F D) F a9 (some [.vs a0.length .unk (enc S83.cs a0),.vs a1.length .unk (enc S83.cs a1)]) q G0 =
 match Pref07_Rows F a0 a1 with|none=>none|some r0=>some (.b r0,none):=by
 obtain ⟨D,rfl⟩:=dex hD
 rw [evW_some,G0]
 simp only [Pref07_Rows]
 by_cases h1:(a0.length:Int)=(a1.length:Int)
 replace h1:=eq_true h1
 simp -implicitDefEqProofs only [*,a9,runC_loop,EVA.down,ne_eq,seval]
 rw [lref07_RowsL0 (D+3) (by omega) F a0 a1 _ F 0 _ (by simp only [*,a9,EVA.down,ne_eq,seval];try rfl)]
 rcases h2:(Pref07_RowsL0 a0 a1 F 0) with _|(_|_)
 all_goals simp -implicitDefEqProofs only [*,a9,EVA.down,ne_eq,seval]
theorem vref07_Rows {D F n:Nat}{args:List AV}{h:AHeap}:OV F (D+1) 9 args h n (n+1)=evW 3 (OV F D) F a9 (frzs (frz true 0 (bif AV.nors args then [] else h) 8) args) (AV.nors args) (hglb h 3):=evV_frozen rfl
theorem lref14_SameRowsL0 (D:Nat)(hD:0≤D)(F:Nat)(v0 v1:List Pl)(K:AE→AS→Option Res):∀ (f:Nat) (v2:Int) (s:AS),s.keep [0,1,5] []=some ⟨[(0,.vs v0.length .unk (enc Pl.cells v0)),(1,.vs v1.length .unk (enc Pl.cells v1)),(5,.i .i64 v2)],[],[(1,tab64)],3,3⟩→
 evLoop (evC (OV F D) 3 F a34L0) f s K=match Pref14_SameRowsL0 v0 v1 f v2 with|none=>none|some (.inl _)=>K .ret ⟨[(4,.b false)],[],[(1,tab64)],3,3⟩|some (.inr _)=>K (.ex 0) ⟨[],[],[(1,tab64)],3,3⟩:=by
 intro f
 induction f with
 |zero=>intro v2 s hs;simp only [evLoop,Pref14_SameRowsL0]
 |succ f ih=>
 intro v2 s hs
 obtain ⟨k0,hk,hn,he,hr⟩:=@lk_all (OV F (D)) 3 F a34L0 f K
 rw [loop_succ,hk,a34L0,runC_cut,hs]
 clear hs
 simp only [Pref14_SameRowsL0]
 clear hk
 by_cases h1:v2<(v0.length:Int)
 rcases ixo (@pk_Pl_cells v0 v2) with h2|⟨x1,h2⟩
 rotate_left
 rcases ixo (@pk_Pl_cells v1 v2) with h3|⟨x2,h3⟩
 rotate_left
 rcases h4:((decide (x1.N=x2.N)&&(decide (x1.X=x2.X)&&(decide (x1.Z=x2.Z)&&decide (x1.Ph=x2.Ph))))) with _|_
 all_goals simp -implicitDefEqProofs only [*,-ih,EVA.down,ne_eq,seval]
 all_goals exact ih _ _ (by simp only [*,-ih,EVA.down,ne_eq,seval])
theorem eref14_SameRows (D:Nat)(hD:0≤D)(F:Nat)(a0 a1:List Pl)(q:Bool):evW 3 (OV F D) F a34 (some [.vs a0.length .unk (enc Pl.cells a0),.vs a1.length .unk (enc Pl.cells a1)]) q G0 =
 match Pref14_SameRows F a0 a1 with|none=>none|some r0=>some (.b r0,none):=by
 rw [evW_some,G0]
 simp only [Pref14_SameRows]
 by_cases h1:(a0.length:Int)=(a1.length:Int)
 replace h1:=eq_true h1
 simp -implicitDefEqProofs only [*,a34,runC_loop,EVA.down,ne_eq,seval]
 rw [lref14_SameRowsL0 (D) (by omega) F a0 a1 _ F 0 _ (by simp only [*,a34,EVA.down,ne_eq,seval];try rfl)]
 rcases h2:(Pref14_SameRowsL0 a0 a1 F 0) with _|(_|_)
 all_goals simp -implicitDefEqProofs only [*,a34,EVA.down,ne_eq,seval]
theorem vref14_SameRows {D F n:Nat}{args:List AV}{h:AHeap}:OV F (D+1) 34 args h n (n+1)=evW 3 (OV F D) F a34 (frzs (frz true 0 (bif AV.nors args then [] else h) 8) args) (AV.nors args) (hglb h 3):=evV_frozen rfl
theorem eref14_Alike (D:Nat)(hD:1≤D)(F:Nat)(a0_N:Int)(a0_Stab a0_Destab:List Pl)(a1_N:Int)(a1_Stab a1_Destab:List Pl)(q:Bool):evW 3 (OV F D) F a11 (some [.agg [.i .i64 a0_N,.vs a0_Stab.length .unk (enc Pl.cells a0_Stab),.vs a0_Destab.length .unk (enc Pl.cells a0_Destab)],.agg [.i .i64 a1_N,.vs a1_Stab.length .unk (enc Pl.cells a1_Stab),.vs a1_Destab.length .unk (enc Pl.cells a1_Destab)]]) q G0 =
 match Pref14_Alike F a0_N a0_Stab a0_Destab a1_N a1_Stab a1_Destab with|none=>none|some r0=>some (.b r0,none):=by
 obtain ⟨D,rfl⟩:=dex hD
 have cref14_SameRows0:=eref14_SameRows (D) (by omega) F
 rw [evW_some,G0]
 simp only [Pref14_Alike]
 by_cases h1:a0_N=a1_N
 replace h1:=eq_true h1
 rcases h2:(Pref14_SameRows F a0_Stab a1_Stab) with _|r1
 rotate_left
 rcases h3:(r1) with _|_
 rotate_left
 rcases h4:(Pref14_SameRows F a0_Destab a1_Destab) with _|r2
 all_goals simp -implicitDefEqProofs only [*,a11,vref14_SameRows,EVA.down,ne_eq,seval]
theorem vref14_Alike {D F n:Nat}{args:List AV}{h:AHeap}:OV F (D+1) 11 args h n (n+1)=evW 3 (OV F D) F a11 (frzs (frz true 0 (bif AV.nors args then [] else h) 8) args) (AV.nors args) (hglb h 3):=evV_frozen rfl
theorem elaw15_StabStates (D:Nat)(hD:6≤D)(F:Nat)(hA:200<F)(a0_N:Int)(a0_Stab a0_Destab:List Pl)(q:Bool):evW 3 (OV F D) F a3 (some [.agg [.i .i64 a0_N,.vs a0_Stab.length .unk (enc Pl.cells a0_Stab),.vs a0_Destab.length .unk (enc Pl.cells a0_Destab)]]) q G0 =
 match Plaw15_StabStates F a0_N a0_Stab a0_Destab with|none=>none|some r0=>some (.b r0,none):=by
 obtain ⟨D,rfl⟩:=dex hD
 have cref14_Copy0:=eref14_Copy (D+5) (by omega) F
 have cstab_State0:=estab_State (D+5) (by omega) F
 have cref15_State0:=eref15_State (D+5) (by omega) F
 have cref07_Rows0:=eref07_Rows (D+5) (by omega) F
 have claw03_Zs0:=elaw03_Zs (D+5) (by omega) F
 have cref14_Alike0:=eref14_Alike (D+5) (by omega) F
 rw [evW_some,G0]
 simp only [Plaw15_StabStates]
 rcases h1:(Pref14_Copy a0_N a0_Stab a0_Destab) with _|⟨r1,r2,r3⟩
 rotate_left
 rcases h2:(Pstab_State F r1 r2 r3) with _|⟨r4,r5⟩
 rotate_left
 rcases h3:(Pref15_State F a0_N a0_Stab a0_Destab) with _|⟨r6,r7⟩
 rotate_left
 rcases h4:(Plaw03_Zs F r4) with _|r8
 rotate_left
 rcases h5:(Pref07_Rows F r8 r6) with _|r9
 rotate_left
 rcases h6:(r9) with _|_
 rotate_left
 by_cases h7:r5=r7
 replace h7:=eq_true h7
 rcases h8:(Pref14_Alike F r1 r2 r3 a0_N a0_Stab a0_Destab) with _|r10
 rotate_left
 rcases h9:(r10) with _|_
 all_goals simp -implicitDefEqProofs (maxSteps:=4000000) only [*,a3,vref14_Copy,vstab_State,vref15_State,vref07_Rows,vlaw03_Zs,vref14_Alike,k12,EVA.down,ne_eq,seval]
theorem vlaw15_StabStates {D F n:Nat}{args:List AV}{h:AHeap}:OV F (D+1) 3 args h n (n+1)=evW 3 (OV F D) F a3 (frzs (frz true 0 (bif AV.nors args then [] else h) 8) args) (AV.nors args) (hglb h 3):=evV_frozen rfl
end Go.Proofs.YtchgkmdonhdfeaaGreatDoor.Ab
