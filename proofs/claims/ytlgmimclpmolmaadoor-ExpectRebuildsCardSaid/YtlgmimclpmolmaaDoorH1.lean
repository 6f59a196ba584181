/- Functions of the program as plain functions, and that the abstract machine's evaluation comes to them. Written by G.py. No condition. -/
import Derived.Test.YtlgmimclpmolmaaDoorHd
set_option maxRecDepth 100000
set_option maxHeartbeats 4000000
set_option linter.unusedVariables false
set_option linter.unusedSimpArgs false
namespace Go.Proofs.YtlgmimclpmolmaaDoor.Ab
open Go
theorem len_Pl_cells:∀ x,(Pl.cells x).length=4:=fun _=>rfl
theorem nors_Pl_cells (x:Pl):AV.nors (Pl.cells x)=true:=by simp only [Pl.cells,AV.nors,AV.nor,Bool.and_self]
theorem one_Pl_cells (x:Pl):(Pl.cells x).all AV.one=true:=by simp only [Pl.cells,List.all_cons,List.all_nil,AV.one,Bool.and_self]
theorem flat_Pl_cells (x:Pl):(Pl.cells x).all AV.flat1=true:=by simp only [Pl.cells,List.all_cons,List.all_nil,AV.flat1,Bool.and_self]
theorem encnors_Pl_cells (l:List Pl):AV.nors (enc Pl.cells l)=true:=enc_nors nors_Pl_cells l
theorem enclen_Pl_cells (l:List Pl):(enc Pl.cells l).length=l.length*4:=enc_len len_Pl_cells l
theorem encone_Pl_cells (l:List Pl):(enc Pl.cells l).all AV.one=true:=enc_all one_Pl_cells l
theorem encall_Pl_cells (l:List Pl):(enc Pl.cells l).all AV.flat1=true:=enc_all flat_Pl_cells l
theorem flatt_Pl_cells (x:Pl):(Pl.cells x).all AV.flat2=true:=by simp only [Pl.cells,List.all_cons,List.all_nil,AV.flat2,Bool.and_self]
theorem encflat_Pl_cells {q:Bool}{b:Nat}{h:AHeap}{f:Nat}(l:List Pl):frzs (frz q b h (f+1)) (enc Pl.cells l)=some (enc Pl.cells l):=frzs_flat2 (enc_all flatt_Pl_cells l)
theorem enctake_Pl_cells (l:List Pl):(enc Pl.cells l).take (l.length*4)=enc Pl.cells l:=by simpa only [Nat.mul_one] using enc_take len_Pl_cells l
theorem encids_Pl_cells {b:Nat}{l:List Nat}(m:List Pl):AV.idss b (enc Pl.cells m) l=l:=idss_nors (encnors_Pl_cells m)
theorem encren_Pl_cells {b c:Nat}{l:List Nat}(m:List Pl):AV.rens b c l (enc Pl.cells m)=some (enc Pl.cells m):=rens_id (encnors_Pl_cells m)
theorem encold_Pl_cells {b:Nat}(m:List Pl):AV.olds b (enc Pl.cells m)=true:=olds_nors (encnors_Pl_cells m)
theorem encpart_Pl_cells (l:List Pl)(k:Nat):(enc Pl.cells l).take (k*4)=enc Pl.cells (l.take k):=by simpa only [Nat.mul_one] using enc_takew len_Pl_cells l k
theorem encdrop_Pl_cells (l:List Pl)(k:Nat):(enc Pl.cells l).drop (k*4)=enc Pl.cells (l.drop k):=by simpa only [Nat.mul_one] using enc_dropw len_Pl_cells l k
theorem pk_Pl_cells {l:List Pl}{j:Int}{x:Pl}(h:idx l j=some x):idx l j=some x∧inb j l.length=true∧apart_ ((enc Pl.cells l).drop (j.toNat*4)) 0 (some 4)=some (.agg (Pl.cells x))∧apart_ ((enc Pl.cells l).drop (j.toNat*4)) 0 none=(Pl.cells x)[0]?∧apart_ (((enc Pl.cells l).drop (j.toNat*4)).drop 1) 0 none=(Pl.cells x)[1]?∧apart_ (((enc Pl.cells l).drop (j.toNat*4)).drop 2) 0 none=(Pl.cells x)[2]?∧apart_ (((enc Pl.cells l).drop (j.toNat*4)).drop 3) 0 none=(Pl.cells x)[3]?∧apart_ (enc Pl.cells l) (j.toNat*4) (some 4)=some (.agg (Pl.cells x))∧apart_ (enc Pl.cells l) (j.toNat*4) none=(Pl.cells x)[0]?∧apart_ (enc Pl.cells l) (j.toNat*4+1) none=(Pl.cells x)[1]?∧apart_ (enc Pl.cells l) (j.toNat*4+2) none=(Pl.cells x)[2]?∧apart_ (enc Pl.cells l) (j.toNat*4+3) none=(Pl.cells x)[3]?:=⟨h,idx_inb h,vp_row len_Pl_cells h,vp_cell0 len_Pl_cells h (by decide),vp_cell (k:=1) len_Pl_cells h (by decide),vp_cell (k:=2) len_Pl_cells h (by decide),vp_cell (k:=3) len_Pl_cells h (by decide),own_row len_Pl_cells h,own_cell0 len_Pl_cells h (by decide),own_cell (k:=1) len_Pl_cells h (by decide),own_cell (k:=2) len_Pl_cells h (by decide),own_cell (k:=3) len_Pl_cells h (by decide)⟩
def c34 (x:BitVec 64):List AV:=[.f .f64 (x).toNat]
theorem len_c34:∀ x,(c34 x).length=1:=fun _=>rfl
theorem nors_c34 (x:BitVec 64):AV.nors (c34 x)=true:=by simp only [c34,AV.nors,AV.nor,Bool.and_self,encnors_Pl_cells]
theorem one_c34 (x:BitVec 64):(c34 x).all AV.one=true:=by simp only [c34,List.all_cons,List.all_nil,AV.one,Bool.and_self]
theorem flat_c34 (x:BitVec 64):(c34 x).all AV.flat1=true:=by simp only [c34,List.all_cons,List.all_nil,AV.flat1,Bool.and_self]
theorem encnors_c34 (l:List (BitVec 64)):AV.nors (enc c34 l)=true:=enc_nors nors_c34 l
theorem enclen_c34 (l:List (BitVec 64)):(enc c34 l).length=l.length*1:=enc_len len_c34 l
theorem encone_c34 (l:List (BitVec 64)):(enc c34 l).all AV.one=true:=enc_all one_c34 l
theorem encall_c34 (l:List (BitVec 64)):(enc c34 l).all AV.flat1=true:=enc_all flat_c34 l
theorem flatt_c34 (x:BitVec 64):(c34 x).all AV.flat2=true:=by simp only [c34,List.all_cons,List.all_nil,AV.flat2,Bool.and_self]
theorem encflat_c34 {q:Bool}{b:Nat}{h:AHeap}{f:Nat}(l:List (BitVec 64)):frzs (frz q b h (f+1)) (enc c34 l)=some (enc c34 l):=frzs_flat2 (enc_all flatt_c34 l)
theorem enctake_c34 (l:List (BitVec 64)):(enc c34 l).take l.length=enc c34 l:=by simpa only [Nat.mul_one] using enc_take len_c34 l
theorem encids_c34 {b:Nat}{l:List Nat}(m:List (BitVec 64)):AV.idss b (enc c34 m) l=l:=idss_nors (encnors_c34 m)
theorem encren_c34 {b c:Nat}{l:List Nat}(m:List (BitVec 64)):AV.rens b c l (enc c34 m)=some (enc c34 m):=rens_id (encnors_c34 m)
theorem encold_c34 {b:Nat}(m:List (BitVec 64)):AV.olds b (enc c34 m)=true:=olds_nors (encnors_c34 m)
theorem encpart_c34 (l:List (BitVec 64))(k:Nat):(enc c34 l).take k=enc c34 (l.take k):=by simpa only [Nat.mul_one] using enc_takew len_c34 l k
theorem encdrop_c34 (l:List (BitVec 64))(k:Nat):(enc c34 l).drop k=enc c34 (l.drop k):=by simpa only [Nat.mul_one] using enc_dropw len_c34 l k
theorem pk_c34 {l:List (BitVec 64)}{j:Int}{x:BitVec 64}(h:idx l j=some x):idx l j=some x∧inb j l.length=true∧apart_ ((enc c34 l).drop j.toNat) 0 none=(c34 x)[0]?∧apart_ (enc c34 l) j.toNat none=(c34 x)[0]?:=⟨h,idx_inb h,vp_one len_c34 h,own_one len_c34 h⟩
theorem len_Cpx_cells:∀ x,(Cpx.cells x).length=1:=fun _=>rfl
theorem nors_Cpx_cells (x:Cpx):AV.nors (Cpx.cells x)=true:=by simp only [Cpx.cells,AV.nors,AV.nor,Bool.and_self,encnors_Pl_cells,encnors_c34]
theorem one_Cpx_cells (x:Cpx):(Cpx.cells x).all AV.one=true:=by simp only [Cpx.cells,List.all_cons,List.all_nil,AV.one,Bool.and_self]
theorem flat_Cpx_cells (x:Cpx):(Cpx.cells x).all AV.flat1=true:=by simp only [Cpx.cells,List.all_cons,List.all_nil,AV.flat1,Bool.and_self]
theorem encnors_Cpx_cells (l:List Cpx):AV.nors (enc Cpx.cells l)=true:=enc_nors nors_Cpx_cells l
theorem enclen_Cpx_cells (l:List Cpx):(enc Cpx.cells l).length=l.length*1:=enc_len len_Cpx_cells l
theorem encone_Cpx_cells (l:List Cpx):(enc Cpx.cells l).all AV.one=true:=enc_all one_Cpx_cells l
theorem encall_Cpx_cells (l:List Cpx):(enc Cpx.cells l).all AV.flat1=true:=enc_all flat_Cpx_cells l
theorem flatt_Cpx_cells (x:Cpx):(Cpx.cells x).all AV.flat2=true:=by simp only [Cpx.cells,List.all_cons,List.all_nil,AV.flat2,Bool.and_self]
theorem encflat_Cpx_cells {q:Bool}{b:Nat}{h:AHeap}{f:Nat}(l:List Cpx):frzs (frz q b h (f+1)) (enc Cpx.cells l)=some (enc Cpx.cells l):=frzs_flat2 (enc_all flatt_Cpx_cells l)
theorem enctake_Cpx_cells (l:List Cpx):(enc Cpx.cells l).take l.length=enc Cpx.cells l:=by simpa only [Nat.mul_one] using enc_take len_Cpx_cells l
theorem encids_Cpx_cells {b:Nat}{l:List Nat}(m:List Cpx):AV.idss b (enc Cpx.cells m) l=l:=idss_nors (encnors_Cpx_cells m)
theorem encren_Cpx_cells {b c:Nat}{l:List Nat}(m:List Cpx):AV.rens b c l (enc Cpx.cells m)=some (enc Cpx.cells m):=rens_id (encnors_Cpx_cells m)
theorem encold_Cpx_cells {b:Nat}(m:List Cpx):AV.olds b (enc Cpx.cells m)=true:=olds_nors (encnors_Cpx_cells m)
theorem encpart_Cpx_cells (l:List Cpx)(k:Nat):(enc Cpx.cells l).take k=enc Cpx.cells (l.take k):=by simpa only [Nat.mul_one] using enc_takew len_Cpx_cells l k
theorem encdrop_Cpx_cells (l:List Cpx)(k:Nat):(enc Cpx.cells l).drop k=enc Cpx.cells (l.drop k):=by simpa only [Nat.mul_one] using enc_dropw len_Cpx_cells l k
theorem pk_Cpx_cells {l:List Cpx}{j:Int}{x:Cpx}(h:idx l j=some x):idx l j=some x∧inb j l.length=true∧apart_ ((enc Cpx.cells l).drop j.toNat) 0 none=(Cpx.cells x)[0]?∧apart_ (enc Cpx.cells l) j.toNat none=(Cpx.cells x)[0]?:=⟨h,idx_inb h,vp_one len_Cpx_cells h,own_one len_Cpx_cells h⟩
def S57.cs (p:S57):List AV:=[.f .f64 (p.f_Re).toNat,.f .f64 (p.f_Im).toNat]
theorem len_S57_cs:∀ x,(S57.cs x).length=2:=fun _=>rfl
theorem nors_S57_cs (x:S57):AV.nors (S57.cs x)=true:=by simp only [S57.cs,AV.nors,AV.nor,Bool.and_self,encnors_Pl_cells,encnors_c34,encnors_Cpx_cells]
theorem one_S57_cs (x:S57):(S57.cs x).all AV.one=true:=by simp only [S57.cs,List.all_cons,List.all_nil,AV.one,Bool.and_self]
theorem flat_S57_cs (x:S57):(S57.cs x).all AV.flat1=true:=by simp only [S57.cs,List.all_cons,List.all_nil,AV.flat1,Bool.and_self]
theorem encnors_S57_cs (l:List S57):AV.nors (enc S57.cs l)=true:=enc_nors nors_S57_cs l
theorem enclen_S57_cs (l:List S57):(enc S57.cs l).length=l.length*2:=enc_len len_S57_cs l
theorem encone_S57_cs (l:List S57):(enc S57.cs l).all AV.one=true:=enc_all one_S57_cs l
theorem encall_S57_cs (l:List S57):(enc S57.cs l).all AV.flat1=true:=enc_all flat_S57_cs l
theorem flatt_S57_cs (x:S57):(S57.cs x).all AV.flat2=true:=by simp only [S57.cs,List.all_cons,List.all_nil,AV.flat2,Bool.and_self]
theorem encflat_S57_cs {q:Bool}{b:Nat}{h:AHeap}{f:Nat}(l:List S57):frzs (frz q b h (f+1)) (enc S57.cs l)=some (enc S57.cs l):=frzs_flat2 (enc_all flatt_S57_cs l)
theorem enctake_S57_cs (l:List S57):(enc S57.cs l).take (l.length*2)=enc S57.cs l:=by simpa only [Nat.mul_one] using enc_take len_S57_cs l
theorem encids_S57_cs {b:Nat}{l:List Nat}(m:List S57):AV.idss b (enc S57.cs m) l=l:=idss_nors (encnors_S57_cs m)
theorem encren_S57_cs {b c:Nat}{l:List Nat}(m:List S57):AV.rens b c l (enc S57.cs m)=some (enc S57.cs m):=rens_id (encnors_S57_cs m)
theorem encold_S57_cs {b:Nat}(m:List S57):AV.olds b (enc S57.cs m)=true:=olds_nors (encnors_S57_cs m)
theorem encpart_S57_cs (l:List S57)(k:Nat):(enc S57.cs l).take (k*2)=enc S57.cs (l.take k):=by simpa only [Nat.mul_one] using enc_takew len_S57_cs l k
theorem encdrop_S57_cs (l:List S57)(k:Nat):(enc S57.cs l).drop (k*2)=enc S57.cs (l.drop k):=by simpa only [Nat.mul_one] using enc_dropw len_S57_cs l k
theorem pk_S57_cs {l:List S57}{j:Int}{x:S57}(h:idx l j=some x):idx l j=some x∧inb j l.length=true∧apart_ ((enc S57.cs l).drop (j.toNat*2)) 0 (some 2)=some (.agg (S57.cs x))∧apart_ ((enc S57.cs l).drop (j.toNat*2)) 0 none=(S57.cs x)[0]?∧apart_ (((enc S57.cs l).drop (j.toNat*2)).drop 1) 0 none=(S57.cs x)[1]?∧apart_ (enc S57.cs l) (j.toNat*2) (some 2)=some (.agg (S57.cs x))∧apart_ (enc S57.cs l) (j.toNat*2) none=(S57.cs x)[0]?∧apart_ (enc S57.cs l) (j.toNat*2+1) none=(S57.cs x)[1]?:=⟨h,idx_inb h,vp_row len_S57_cs h,vp_cell0 len_S57_cs h (by decide),vp_cell (k:=1) len_S57_cs h (by decide),own_row len_S57_cs h,own_cell0 len_S57_cs h (by decide),own_cell (k:=1) len_S57_cs h (by decide)⟩
theorem ixo {α:Type}{l:List α}{j:Int}{p:α→Prop}(h:∀ {x},idx l j=some x→p x):(idx l j=none∧inb j l.length=false)∨∃ x,p x:=(Option.eq_none_or_eq_some (idx l j)).elim (fun e=>.inl (pkn e)) (fun ⟨x,e⟩=>.inr ⟨x,h e⟩)
theorem dex {k D:Nat}(h:k≤D):∃ E,D=E+k:=⟨D-k,by omega⟩
def EVE:=PLift.up <| And.intro @oM.eq_1 <| And.intro @oL.eq_1 <| And.intro @oJ.eq_1 <| And.intro @oF.eq_1 <| And.intro @oS.eq_1 <| And.intro @oA.eq_1 <| And.intro @oP.eq_1 <| And.intro @oE.eq_1 <| And.intro @oB.eq_1 <| And.intro @oQ.eq_1 <| And.intro @oN.eq_1 <| And.intro @oT.eq_1 <| And.intro @oU.eq_1 <| And.intro @oG.eq_1 <| And.intro @oI.eq_1 <| And.intro @oC.eq_1 <| And.intro @oX.eq_1 <| And.intro @oY.eq_1 <| And.intro @gf.eq_1 <| And.intro @gt.eq_1 <| And.intro @Pl.cells.eq_1 (And.intro @encnors_Pl_cells (And.intro @enclen_Pl_cells (And.intro @encone_Pl_cells (And.intro @encall_Pl_cells (And.intro @encflat_Pl_cells (And.intro @enctake_Pl_cells (And.intro @encids_Pl_cells (And.intro @encren_Pl_cells (And.intro @encold_Pl_cells (And.intro @encpart_Pl_cells (And.intro @c34.eq_1 (And.intro @encnors_c34 (And.intro @enclen_c34 (And.intro @encone_c34 (And.intro @encall_c34 (And.intro @encflat_c34 (And.intro @enctake_c34 (And.intro @encids_c34 (And.intro @encren_c34 (And.intro @encold_c34 (And.intro @encpart_c34 (And.intro @Cpx.cells.eq_1 (And.intro @encnors_Cpx_cells (And.intro @enclen_Cpx_cells (And.intro @encone_Cpx_cells (And.intro @encall_Cpx_cells (And.intro @encflat_Cpx_cells (And.intro @enctake_Cpx_cells (And.intro @encids_Cpx_cells (And.intro @encren_Cpx_cells (And.intro @encold_Cpx_cells (And.intro @encpart_Cpx_cells (And.intro @S57.cs.eq_1 (And.intro @encnors_S57_cs (And.intro @enclen_S57_cs (And.intro @encone_S57_cs (And.intro @encall_S57_cs (And.intro @encflat_S57_cs (And.intro @enctake_S57_cs (And.intro @encids_S57_cs (And.intro @encren_S57_cs (And.intro @encold_S57_cs @encpart_S57_cs))))))))))))))))))))))))))))))))))))))))))
def EVA:=PLift.up <| And.intro EV0.down <| And.intro EV1.down <| And.intro EV2.down <| And.intro EV3.down <| And.intro EV4.down <| And.intro EV5.down <| And.intro EV6.down <| And.intro EV7.down <| And.intro EVK.down <| And.intro EVF.down <| And.intro EVN.down <| And.intro EVE.down @kont_ret
theorem lexpect_qubitsL0 (D:Nat)(hD:0≤D)(F:Nat)(v0:List (BitVec 64))(K:AE→AS→Option Res):∀ (f:Nat) (v1:Int) (s:AS),s.keep [0,4] []=some ⟨[(0,.vs v0.length .unk (enc c34 v0)),(4,.i .i64 v1)],[],[(1,tab64)],3⟩→
 evLoop (evC (OV F D) 3 F a13L0) f s K=match Pexpect_qubitsL0 v0 f v1 with|none=>none|some (.inl y0)=>K .ret ⟨[(2,.i .i64 y0)],[],[(1,tab64)],3⟩|some (.inr _)=>K (.ex 0) ⟨[],[],[(1,tab64)],3⟩:=by
 intro f
 induction f with
 |zero=>intro v1 s hs;simp only [evLoop,Pexpect_qubitsL0]
 |succ f ih=>
 intro v1 s hs
 obtain ⟨k0,hk,hn,he,hr⟩:=@lk_all (OV F (D)) 3 F a13L0 f K
 rw [loop_succ,hk,a13L0,runC_cut,hs]
 clear hs
 simp only [Pexpect_qubitsL0]
 clear hk
 by_cases h1:v1<6
 by_cases h2:(IntKind.i64.wrap (2*v1))<0
 rotate_left
 by_cases h3:(v0.length:Int)=(IntKind.i64.wrap (1*2 ^ (min ((IntKind.i64.wrap (2*v1))).toNat 64)))
 replace h3:=eq_true h3
 all_goals simp -implicitDefEqProofs only [*,-ih,EVA.down,ne_eq,seval]
 all_goals exact ih _ _ (by simp only [*,-ih,EVA.down,ne_eq,seval])
theorem eexpect_qubits (D:Nat)(hD:0≤D)(F:Nat)(a0:List (BitVec 64))(q:Bool):evW 3 (OV F D) F a13 (some [.vs a0.length .unk (enc c34 a0)]) q G0 =
 match Pexpect_qubits F a0 with|none=>none|some r0=>some (.i .i64 r0,none):=by
 rw [evW_some,G0]
 simp only [Pexpect_qubits]
 simp -implicitDefEqProofs only [*,a13,runC_loop,EVA.down,ne_eq,seval]
 rw [lexpect_qubitsL0 (D) (by omega) F a0 _ F 0 _ (by simp only [*,a13,EVA.down,ne_eq,seval];try rfl)]
 rcases h1:(Pexpect_qubitsL0 a0 F 0) with _|(y1|_)
 all_goals simp -implicitDefEqProofs only [*,a13,EVA.down,ne_eq,seval]
theorem vexpect_qubits {D F n:Nat}{args:List AV}{h:AHeap}:OV F (D+1) 13 args h n (n+1)=evW 3 (OV F D) F a13 (frzs (frz true 0 (bif AV.nors args then [] else h) 8) args) (AV.nors args) (hglb h 3):=evV_frozen rfl
theorem ebits_OnesCount64 (D:Nat)(hD:0≤D)(F:Nat)(a0:BitVec 64)(q:Bool):evW 3 (OV F D) F a37 (some [.i .u64 (U a0)]) q G0 =
 some (.i .i64 ((Pbits_OnesCount64 a0)),none):=by
 have u2:AV.i .u64 2=.i .u64 (U 2#64):=id rfl
 have u4:AV.i .u64 4=.i .u64 (U 4#64):=id rfl
 have u8:AV.i .u64 8=.i .u64 (U 8#64):=id rfl
 have u16:AV.i .u64 16=.i .u64 (U 16#64):=id rfl
 have u32:AV.i .u64 32=.i .u64 (U 32#64):=id rfl
 have u1085102592571150095:AV.i .u64 1085102592571150095=.i .u64 (U 1085102592571150095#64):=id rfl
 have u3689348814741910323:AV.i .u64 3689348814741910323=.i .u64 (U 3689348814741910323#64):=id rfl
 have u6148914691236517205:AV.i .u64 6148914691236517205=.i .u64 (U 6148914691236517205#64):=id rfl
 rw [evW_some,G0]
 skip
 all_goals simp -implicitDefEqProofs only [*,a37,Pbits_OnesCount64,EVA.down,ne_eq,seval]
theorem vbits_OnesCount64 {D F n:Nat}{args:List AV}{h:AHeap}:OV F (D+1) 37 args h n (n+1)=evW 3 (OV F D) F a37 (frzs (frz true 0 (bif AV.nors args then [] else h) 8) args) (AV.nors args) (hglb h 3):=evV_frozen rfl
theorem ebits_OnesCount (D:Nat)(hD:1≤D)(F:Nat)(a0:BitVec 64)(q:Bool):evW 3 (OV F D) F a15 (some [.i .u64 (U a0)]) q G0 =
 some (.i .i64 ((Pbits_OnesCount a0)),none):=by
 obtain ⟨D,rfl⟩:=dex hD
 have cbits_OnesCount640:=ebits_OnesCount64 (D) (by omega) F
 rw [evW_some,G0]
 skip
 all_goals simp -implicitDefEqProofs only [*,a15,Pbits_OnesCount,vbits_OnesCount64,EVA.down,ne_eq,seval]
theorem vbits_OnesCount {D F n:Nat}{args:List AV}{h:AHeap}:OV F (D+1) 15 args h n (n+1)=evW 3 (OV F D) F a15 (frzs (frz true 0 (bif AV.nors args then [] else h) 8) args) (AV.nors args) (hglb h 3):=evV_frozen rfl
theorem eexpect_Rebuild_1 (D:Nat)(hD:2≤D)(F:Nat)(a0 a1:Int)(q:Bool):evW 3 (OV F D) F a14 (some [.i .i64 a0,.i .i64 a1]) q G0 =
 some (.i .i64 ((Pexpect_Rebuild_1 a0 a1)),none):=by
 obtain ⟨D,rfl⟩:=dex hD
 have cbits_OnesCount0:=ebits_OnesCount (D+1) (by omega) F
 rw [evW_some,G0]
 skip
 all_goals simp -implicitDefEqProofs only [*,a14,Pexpect_Rebuild_1,vbits_OnesCount,EVA.down,ne_eq,seval]
theorem vexpect_Rebuild_1 {D F n:Nat}{args:List AV}{h:AHeap}:OV F (D+1) 14 args h n (n+1)=evW 3 (OV F D) F a14 (frzs (frz true 0 (bif AV.nors args then [] else h) 8) args) (AV.nors args) (hglb h 3):=evV_frozen rfl
theorem eplane_Neg (D:Nat)(hD:0≤D)(F:Nat)(a0_re a0_im:BitVec 64)(q:Bool):evW 3 (OV F D) F a38 (some [.c .f64 (a0_re).toNat (a0_im).toNat]) q G0 =
 match Pplane_Neg a0_re a0_im with|(r0,r1)=>some (.c .f64 (r0).toNat (r1).toNat,none):=by
 have flc_0_0:AV.c .f64 0 0=.c .f64 (0#64).toNat (0#64).toNat:=id rfl
 rw [evW_some,G0]
 skip
 all_goals simp -implicitDefEqProofs only [*,a38,Pplane_Neg,flc_0_0,EVA.down,ne_eq,seval]
theorem vplane_Neg {D F n:Nat}{args:List AV}{h:AHeap}:OV F (D+1) 38 args h n (n+1)=evW 3 (OV F D) F a38 (frzs (frz true 0 (bif AV.nors args then [] else h) 8) args) (AV.nors args) (hglb h 3):=evV_frozen rfl
theorem eplane_Turn (D:Nat)(hD:1≤D)(F:Nat)(a0_re a0_im:BitVec 64)(a1:Int)(q:Bool):evW 3 (OV F D) F a16 (some [.c .f64 (a0_re).toNat (a0_im).toNat,.i .i64 a1]) q G0 =
 match Pplane_Turn a0_re a0_im a1 with|(r0,r1)=>some (.c .f64 (r0).toNat (r1).toNat,none):=by
 obtain ⟨D,rfl⟩:=dex hD
 have flc_0_0:AV.c .f64 0 0=.c .f64 (0#64).toNat (0#64).toNat:=id rfl
 have cplane_Neg0:=eplane_Neg (D) (by omega) F
 rw [evW_some,G0]
 simp only [Pplane_Turn]
 by_cases h1:(bitop .and .i64 a1 3)=1
 replace h1:=eq_true h1
 rotate_left
 by_cases h2:(bitop .and .i64 a1 3)=2
 replace h2:=eq_true h2
 rcases h3:(Pplane_Neg a0_re a0_im) with ⟨r1,r2⟩
 rotate_left
 by_cases h4:(bitop .and .i64 a1 3)=3
 replace h4:=eq_true h4
 all_goals simp -implicitDefEqProofs only [*,a16,flc_0_0,vplane_Neg,EVA.down,ne_eq,seval]
theorem vplane_Turn {D F n:Nat}{args:List AV}{h:AHeap}:OV F (D+1) 16 args h n (n+1)=evW 3 (OV F D) F a16 (frzs (frz true 0 (bif AV.nors args then [] else h) 8) args) (AV.nors args) (hglb h 3):=evV_frozen rfl
theorem lexpect_RebuildL0 (D:Nat)(hD:3≤D)(F:Nat)(K:AE→AS→Option Res):∀ (f:Nat) (v0:List (BitVec 64)) (v1 v2 v3 v4 v5 v6 v7 v8 v9 v10 v11 v12 v13:Int) (v14:List Cpx) (s:AS),s.keepG 3 [0,2,4,5,6,7,8,9,10,11,24,25,28,29,35,36] [2,7]=some ⟨[(0,.vs v0.length .unk (enc c34 v0)),(2,.lp 2 0),(4,.i .i64 v1),(5,.i .i64 v2),(6,.fn (.func 14) [] []),(7,.lp 7 0),(8,.i .i64 v3),(9,.i .i64 v4),(10,.i .i64 v5),(11,.sl (some (3,0)) v14.length .op),(24,.i .i64 v6),(25,.i .i64 v7),(28,.i .i64 v8),(29,.i .i64 v9),(35,.i .i64 v10),(36,.i .i64 v11)],[(2,[.i .i64 v12,.sl none 0 (.ex 0)]),(7,[.i .i64 v13,.sl none 0 (.ex 0)])],[(3,⟨true,true,49,1,enc Cpx.cells v14⟩),(1,tab64)],4⟩→
 evLoop (evC (OV F D) 3 F a4L0) f s K=match Pexpect_RebuildL0 f v0 v1 v2 v3 v4 v5 v6 v7 v8 v9 v10 v11 v12 v13 v14 with|none=>none|some (.inl (y0,y1,y2,y3,y4,y5,y6,y7,y8,y9))=>K (.ex 4) ⟨[(0,.vs y0.length .unk (enc c34 y0)),(2,.lp 2 0),(4,.i .i64 y1),(5,.i .i64 y2),(6,.fn (.func 14) [] []),(7,.lp 7 0),(8,.i .i64 y3),(11,.sl none 0 (.ex 0)),(24,.i .i64 y4),(25,.i .i64 y5),(28,.i .i64 y6),(29,.i .i64 y7)],[(2,[.i .i64 y8,.sl none 0 (.ex 0)]),(7,[.i .i64 y9,.sl none 0 (.ex 0)])],[(1,tab64)],3⟩|some (.inr (y0,y1,y2,y3,y4,y5,y6,y7,y8,y9,y10))=>K (.ex 4) ⟨[(0,.vs y0.length .unk (enc c34 y0)),(2,.lp 2 0),(4,.i .i64 y1),(5,.i .i64 y2),(6,.fn (.func 14) [] []),(7,.lp 7 0),(8,.i .i64 y3),(11,.sl (some (3,0)) y10.length .op),(24,.i .i64 y4),(25,.i .i64 y5),(28,.i .i64 y6),(29,.i .i64 y7)],[(2,[.i .i64 y8,.sl none 0 (.ex 0)]),(7,[.i .i64 y9,.sl none 0 (.ex 0)])],[(3,⟨true,true,49,1,enc Cpx.cells y10⟩),(1,tab64)],4⟩:=by
 obtain ⟨D,rfl⟩:=dex hD
 have flc_0_0:AV.c .f64 0 0=.c .f64 (0#64).toNat (0#64).toNat:=id rfl
 have flf_0:AV.f .f64 0=.f .f64 (0#64).toNat:=id rfl
 have flx_0:∀ x,AV.c .f64 x 0=.c .f64 x (0#64).toNat:=fun _=>id rfl
 have fly_0:∀ x,AV.c .f64 0 x=.c .f64 (0#64).toNat x:=fun _=>id rfl
 have cexpect_Rebuild_10:=eexpect_Rebuild_1 (D+2) (by omega) F
 have cplane_Turn0:=eplane_Turn (D+2) (by omega) F
 intro f
 induction f with
 |zero=>intro v0 v1 v2 v3 v4 v5 v6 v7 v8 v9 v10 v11 v12 v13 v14 s hs;simp only [evLoop,Pexpect_RebuildL0]
 |succ f ih=>
 intro v0 v1 v2 v3 v4 v5 v6 v7 v8 v9 v10 v11 v12 v13 v14 s hs
 obtain ⟨k0,hk,hn,he,hr⟩:=@lk_all (OV F (D+3)) 3 F a4L0 f K
 rw [loop_succ,hk,a4L0,runC_cutg,hs]
 clear hs
 simp only [Pexpect_RebuildL0]
 clear hk
 by_cases h1:v11<v10
 rcases ixo (@pk_c34 v0 (IntKind.i64.wrap (v5+(IntKind.i64.wrap (v2*v11))))) with h2|⟨x1,h2⟩
 rotate_left
 rcases h3:(Pplane_Turn x1 0#64 (IntKind.i64.wrap ((Pexpect_Rebuild_1 v5 v11)+(IntKind.i64.wrap (2*(Pexpect_Rebuild_1 v4 v11)))))) with ⟨r2,r3⟩
 by_cases h4:(v14.length+1)*16≤140737488355328
 all_goals simp -implicitDefEqProofs only [*,-ih,flc_0_0,flf_0,flx_0,fly_0,vexpect_Rebuild_1,vplane_Turn,EVA.down,ne_eq,seval]
 all_goals exact ih _ _ _ _ _ _ _ _ _ _ _ _ _ _ _ _ (by simp only [*,-ih,flc_0_0,flf_0,flx_0,fly_0,vexpect_Rebuild_1,vplane_Turn,EVA.down,ne_eq,seval])
theorem lexpect_RebuildL1 (D:Nat)(hD:3≤D)(F:Nat)(K:AE→AS→Option Res):∀ (f:Nat) (v0:List (BitVec 64)) (v1 v2 v3 v4 v5 v6 v7 v8 v9 v10 v11 v12 v13:Int) (s:AS),s.keepG 3 [0,2,4,5,6,7,8,9,10,11,24,25,28,29,35,36] [2,7]=some ⟨[(0,.vs v0.length .unk (enc c34 v0)),(2,.lp 2 0),(4,.i .i64 v1),(5,.i .i64 v2),(6,.fn (.func 14) [] []),(7,.lp 7 0),(8,.i .i64 v3),(9,.i .i64 v4),(10,.i .i64 v5),(11,.sl none 0 (.ex 0)),(24,.i .i64 v6),(25,.i .i64 v7),(28,.i .i64 v8),(29,.i .i64 v9),(35,.i .i64 v10),(36,.i .i64 v11)],[(2,[.i .i64 v12,.sl none 0 (.ex 0)]),(7,[.i .i64 v13,.sl none 0 (.ex 0)])],[(1,tab64)],3⟩→
 evLoop (evC (OV F D) 3 F a4L0) f s K=match Pexpect_RebuildL1 f v0 v1 v2 v3 v4 v5 v6 v7 v8 v9 v10 v11 v12 v13 with|none=>none|some (.inl (y0,y1,y2,y3,y4,y5,y6,y7,y8,y9))=>K (.ex 4) ⟨[(0,.vs y0.length .unk (enc c34 y0)),(2,.lp 2 0),(4,.i .i64 y1),(5,.i .i64 y2),(6,.fn (.func 14) [] []),(7,.lp 7 0),(8,.i .i64 y3),(11,.sl none 0 (.ex 0)),(24,.i .i64 y4),(25,.i .i64 y5),(28,.i .i64 y6),(29,.i .i64 y7)],[(2,[.i .i64 y8,.sl none 0 (.ex 0)]),(7,[.i .i64 y9,.sl none 0 (.ex 0)])],[(1,tab64)],3⟩|some (.inr (y0,y1,y2,y3,y4,y5,y6,y7,y8,y9,y10))=>K (.ex 4) ⟨[(0,.vs y0.length .unk (enc c34 y0)),(2,.lp 2 0),(4,.i .i64 y1),(5,.i .i64 y2),(6,.fn (.func 14) [] []),(7,.lp 7 0),(8,.i .i64 y3),(11,.sl (some (3,0)) y10.length .op),(24,.i .i64 y4),(25,.i .i64 y5),(28,.i .i64 y6),(29,.i .i64 y7)],[(2,[.i .i64 y8,.sl none 0 (.ex 0)]),(7,[.i .i64 y9,.sl none 0 (.ex 0)])],[(3,⟨true,true,49,1,enc Cpx.cells y10⟩),(1,tab64)],4⟩:=by
 obtain ⟨D,rfl⟩:=dex hD
 have flc_0_0:AV.c .f64 0 0=.c .f64 (0#64).toNat (0#64).toNat:=id rfl
 have flf_0:AV.f .f64 0=.f .f64 (0#64).toNat:=id rfl
 have flx_0:∀ x,AV.c .f64 x 0=.c .f64 x (0#64).toNat:=fun _=>id rfl
 have fly_0:∀ x,AV.c .f64 0 x=.c .f64 (0#64).toNat x:=fun _=>id rfl
 have cexpect_Rebuild_10:=eexpect_Rebuild_1 (D+2) (by omega) F
 have cplane_Turn0:=eplane_Turn (D+2) (by omega) F
 have nlexpect_RebuildL0:=lexpect_RebuildL0 (D+3) (by omega) F K
 intro f
 induction f with
 |zero=>intro v0 v1 v2 v3 v4 v5 v6 v7 v8 v9 v10 v11 v12 v13 s hs;simp only [evLoop,Pexpect_RebuildL1]
 |succ f ih=>
 intro v0 v1 v2 v3 v4 v5 v6 v7 v8 v9 v10 v11 v12 v13 s hs
 obtain ⟨k0,hk,hn,he,hr⟩:=@lk_all (OV F (D+3)) 3 F a4L0 f K
 rw [loop_succ,hk,a4L0,runC_cutg,hs]
 clear hs
 simp only [Pexpect_RebuildL1]
 clear hk
 by_cases h1:v11<v10
 rcases ixo (@pk_c34 v0 (IntKind.i64.wrap (v5+(IntKind.i64.wrap (v2*v11))))) with h2|⟨x1,h2⟩
 rotate_left
 rcases h3:(Pplane_Turn x1 0#64 (IntKind.i64.wrap ((Pexpect_Rebuild_1 v5 v11)+(IntKind.i64.wrap (2*(Pexpect_Rebuild_1 v4 v11)))))) with ⟨r2,r3⟩
 all_goals simp -implicitDefEqProofs only [*,-ih,flc_0_0,flf_0,flx_0,fly_0,vexpect_Rebuild_1,vplane_Turn,EVA.down,ne_eq,seval]
 all_goals exact nlexpect_RebuildL0 f _ _ _ _ _ _ _ _ _ _ _ _ _ _ _ _ (by simp only [*,-ih,flc_0_0,flf_0,flx_0,fly_0,vexpect_Rebuild_1,vplane_Turn,EVA.down,ne_eq,seval])
theorem eplane_Add (D:Nat)(hD:0≤D)(F:Nat)(a0_re a0_im a1_re a1_im:BitVec 64)(q:Bool):evW 3 (OV F D) F a41 (some [.c .f64 (a0_re).toNat (a0_im).toNat,.c .f64 (a1_re).toNat (a1_im).toNat]) q G0 =
 match Pplane_Add a0_re a0_im a1_re a1_im with|(r0,r1)=>some (.c .f64 (r0).toNat (r1).toNat,none):=by
 have flc_0_0:AV.c .f64 0 0=.c .f64 (0#64).toNat (0#64).toNat:=id rfl
 rw [evW_some,G0]
 skip
 all_goals simp -implicitDefEqProofs only [*,a41,Pplane_Add,flc_0_0,EVA.down,ne_eq,seval]
theorem vplane_Add {D F n:Nat}{args:List AV}{h:AHeap}:OV F (D+1) 41 args h n (n+1)=evW 3 (OV F D) F a41 (frzs (frz true 0 (bif AV.nors args then [] else h) 8) args) (AV.nors args) (hglb h 3):=evV_frozen rfl
theorem lplane_SumL0 (D:Nat)(hD:1≤D)(F:Nat)(v2:List Cpx)(v3:Int)(K:AE→AS→Option Res):∀ (f:Nat) (v0 v1:BitVec 64) (v4:Int) (s:AS),s.keep [3,13,14,15] []=some ⟨[(3,.c .f64 (v0).toNat (v1).toNat),(13,.vs v2.length .unk (enc Cpx.cells v2)),(14,.i .i64 v3),(15,.i .i64 v4)],[],[(1,tab64)],3⟩→
 evLoop (evC (OV F D) 3 F a18L0) f s K=match Pplane_SumL0 v2 v3 f v0 v1 v4 with|none=>none|some (y0,y1)=>K (.ex 0) ⟨[(3,.c .f64 (y0).toNat (y1).toNat)],[],[(1,tab64)],3⟩:=by
 obtain ⟨D,rfl⟩:=dex hD
 have cplane_Add0:=eplane_Add (D) (by omega) F
 intro f
 induction f with
 |zero=>intro v0 v1 v4 s hs;simp only [evLoop,Pplane_SumL0]
 |succ f ih=>
 intro v0 v1 v4 s hs
 obtain ⟨k0,hk,hn,he,hr⟩:=@lk_all (OV F (D+1)) 3 F a18L0 f K
 rw [loop_succ,hk,a18L0,runC_cut,hs]
 clear hs
 simp only [Pplane_SumL0]
 clear hk
 by_cases h1:v4<v3
 rcases ixo (@pk_Cpx_cells v2 v4) with h2|⟨x1,h2⟩
 rotate_left
 rcases h3:(Pplane_Add v0 v1 x1.re x1.im) with ⟨r2,r3⟩
 all_goals simp -implicitDefEqProofs only [*,-ih,vplane_Add,EVA.down,ne_eq,seval]
 all_goals exact ih _ _ _ _ (by simp only [*,-ih,vplane_Add,EVA.down,ne_eq,seval])
theorem eplane_Sum (D:Nat)(hD:1≤D)(F:Nat)(a0:List Cpx)(q:Bool):evW 3 (OV F D) F a18 (some [.vs a0.length .unk (enc Cpx.cells a0)]) q G0 =
 match Pplane_Sum F a0 with|none=>none|some (r0,r1)=>some (.c .f64 (r0).toNat (r1).toNat,none):=by
 obtain ⟨D,rfl⟩:=dex hD
 have flc_0_0:AV.c .f64 0 0=.c .f64 (0#64).toNat (0#64).toNat:=id rfl
 rw [evW_some,G0]
 simp only [Pplane_Sum]
 by_cases h1:(a0.length:Int)=0
 replace h1:=eq_true h1
 rotate_left
 rcases ixo (@pk_Cpx_cells a0 (0)) with h2|⟨x1,h2⟩
 rotate_left
 try simp only [Int.reduceToNat,Nat.reduceMul,Nat.reduceAdd,Nat.zero_mul,Nat.zero_add,List.drop_zero] at h2
 by_cases h3:1≤(a0.length:Int)
 have h4:List.take (a0.length-1) (List.drop (1) (enc Cpx.cells a0))=enc Cpx.cells ((a0.drop 1).take (a0.length-1)):=(congrArg (List.take _) (encdrop_Cpx_cells a0 (1))).trans (encpart_Cpx_cells _ _)
 have h5:∀ cap x,AV.vs (a0.length-1) cap x=AV.vs ((a0.drop 1).take (a0.length-1)).length cap x:=by intro cap x;congr 1;simp only [List.length_take,List.length_drop];omega
 simp -implicitDefEqProofs only [*,a18,flc_0_0,runC_loop,EVA.down,ne_eq,seval]
 rw [lplane_SumL0 (D+1) (by omega) F ((a0.drop 1).take (a0.length-1)) (((a0.drop 1).take (a0.length-1)).length:Int) _ F x1.re x1.im 0 _ (by simp only [*,a18,flc_0_0,EVA.down,ne_eq,seval];try rfl)]
 rcases h6:(Pplane_SumL0 ((a0.drop 1).take (a0.length-1)) (((a0.drop 1).take (a0.length-1)).length:Int) F x1.re x1.im 0) with _|⟨y2,y3⟩
 all_goals simp -implicitDefEqProofs only [*,a18,flc_0_0,EVA.down,ne_eq,seval]
theorem vplane_Sum {D F n:Nat}{args:List AV}{h:AHeap}:OV F (D+1) 18 args h n (n+1)=evW 3 (OV F D) F a18 (frzs (frz true 0 (bif AV.nors args then [] else h) 8) args) (AV.nors args) (hglb h 3):=evV_frozen rfl
theorem emath_IsInf (D:Nat)(hD:0≤D)(F:Nat)(a0:BitVec 64)(a1:Int)(q:Bool):evW 3 (OV F D) F a54 (some [.f .f64 (a0).toNat,.i .i64 a1]) q G0 =
 some (.b ((Pmath_IsInf a0 a1)),none):=by
 have flf_9218868437227405311:AV.f .f64 9218868437227405311=.f .f64 (9218868437227405311#64).toNat:=id rfl
 have flx_9218868437227405311:∀ x,AV.c .f64 x 9218868437227405311=.c .f64 x (9218868437227405311#64).toNat:=fun _=>id rfl
 have fly_9218868437227405311:∀ x,AV.c .f64 9218868437227405311 x=.c .f64 (9218868437227405311#64).toNat x:=fun _=>id rfl
 rw [evW_some,G0]
 simp only [Pmath_IsInf]
 by_cases h1:a1=0
 replace h1:=eq_true h1
 rotate_left
 by_cases h2:a1<0
 all_goals simp -implicitDefEqProofs only [*,a54,flf_9218868437227405311,flx_9218868437227405311,fly_9218868437227405311,k72,EVA.down,ne_eq,seval]
theorem vmath_IsInf {D F n:Nat}{args:List AV}{h:AHeap}:OV F (D+1) 54 args h n (n+1)=evW 3 (OV F D) F a54 (frzs (frz true 0 (bif AV.nors args then [] else h) 8) args) (AV.nors args) (hglb h 3):=evV_frozen rfl
theorem emath_IsNaN (D:Nat)(hD:0≤D)(F:Nat)(a0:BitVec 64)(q:Bool):evW 3 (OV F D) F a55 (some [.f .f64 (a0).toNat]) q G0 =
 some (.b ((Pmath_IsNaN a0)),none):=by
 rw [evW_some,G0]
 skip
 all_goals simp -implicitDefEqProofs only [*,a55,Pmath_IsNaN,EVA.down,ne_eq,seval]
theorem vmath_IsNaN {D F n:Nat}{args:List AV}{h:AHeap}:OV F (D+1) 55 args h n (n+1)=evW 3 (OV F D) F a55 (frzs (frz true 0 (bif AV.nors args then [] else h) 8) args) (AV.nors args) (hglb h 3):=evV_frozen rfl
theorem emath_normalize (D:Nat)(hD:0≤D)(F:Nat)(a0:BitVec 64)(q:Bool):evW 3 (OV F D) F a56 (some [.f .f64 (a0).toNat]) q G0 =
 match Pmath_normalize a0 with|(r0,r1)=>some (.tup [.f .f64 (r0).toNat,.i .i64 r1],none):=by
 have flf_0:AV.f .f64 0=.f .f64 (0#64).toNat:=id rfl
 have flx_0:∀ x,AV.c .f64 x 0=.c .f64 x (0#64).toNat:=fun _=>id rfl
 have fly_0:∀ x,AV.c .f64 0 x=.c .f64 (0#64).toNat x:=fun _=>id rfl
 have flf_4503599627370496:AV.f .f64 4503599627370496=.f .f64 (4503599627370496#64).toNat:=id rfl
 have flx_4503599627370496:∀ x,AV.c .f64 x 4503599627370496=.c .f64 x (4503599627370496#64).toNat:=fun _=>id rfl
 have fly_4503599627370496:∀ x,AV.c .f64 4503599627370496 x=.c .f64 (4503599627370496#64).toNat x:=fun _=>id rfl
 have flf_4841369599423283200:AV.f .f64 4841369599423283200=.f .f64 (4841369599423283200#64).toNat:=id rfl
 have flx_4841369599423283200:∀ x,AV.c .f64 x 4841369599423283200=.c .f64 x (4841369599423283200#64).toNat:=fun _=>id rfl
 have fly_4841369599423283200:∀ x,AV.c .f64 4841369599423283200 x=.c .f64 (4841369599423283200#64).toNat x:=fun _=>id rfl
 rw [evW_some,G0]
 simp only [Pmath_normalize]
 rcases h1:(fCmp .lss (fAbs a0) 4503599627370496#64) with _|_
 all_goals simp -implicitDefEqProofs only [*,a56,flf_0,flx_0,fly_0,flf_4503599627370496,flx_4503599627370496,fly_4503599627370496,flf_4841369599423283200,flx_4841369599423283200,fly_4841369599423283200,k72,EVA.down,ne_eq,seval]
theorem vmath_normalize {D F n:Nat}{args:List AV}{h:AHeap}:OV F (D+1) 56 args h n (n+1)=evW 3 (OV F D) F a56 (frzs (frz true 0 (bif AV.nors args then [] else h) 8) args) (AV.nors args) (hglb h 3):=evV_frozen rfl
theorem emath_Copysign (D:Nat)(hD:0≤D)(F:Nat)(a0 a1:BitVec 64)(q:Bool):evW 3 (OV F D) F a57 (some [.f .f64 (a0).toNat,.f .f64 (a1).toNat]) q G0 =
 match Pmath_Copysign a0 a1 with|none=>none|some r0=>some (.f .f64 (r0).toNat,none):=by
 have u9223372036854775808:AV.i .u64 9223372036854775808=.i .u64 (U 9223372036854775808#64):=id rfl
 have flf_0:AV.f .f64 0=.f .f64 (0#64).toNat:=id rfl
 have flx_0:∀ x,AV.c .f64 x 0=.c .f64 x (0#64).toNat:=fun _=>id rfl
 have fly_0:∀ x,AV.c .f64 0 x=.c .f64 (0#64).toNat x:=fun _=>id rfl
 rw [evW_some,G0]
 simp only [Pmath_Copysign]
 rcases h1:(fNaN a0) with _|_
 rcases h2:(fNaN a1) with _|_
 all_goals simp -implicitDefEqProofs only [*,a57,flf_0,flx_0,fly_0,EVA.down,ne_eq,seval]
theorem vmath_Copysign {D F n:Nat}{args:List AV}{h:AHeap}:OV F (D+1) 57 args h n (n+1)=evW 3 (OV F D) F a57 (frzs (frz true 0 (bif AV.nors args then [] else h) 8) args) (AV.nors args) (hglb h 3):=evV_frozen rfl
theorem emath_Inf (D:Nat)(hD:0≤D)(F:Nat)(a0:Int)(q:Bool):evW 3 (OV F D) F a58 (some [.i .i64 a0]) q G0 =
 some (.f .f64 ((Pmath_Inf a0)).toNat,none):=by
 have u9218868437227405312:AV.i .u64 9218868437227405312=.i .u64 (U 9218868437227405312#64):=id rfl
 have u18442240474082181120:AV.i .u64 18442240474082181120=.i .u64 (U 18442240474082181120#64):=id rfl
 have flf_0:AV.f .f64 0=.f .f64 (0#64).toNat:=id rfl
 have flx_0:∀ x,AV.c .f64 x 0=.c .f64 x (0#64).toNat:=fun _=>id rfl
 have fly_0:∀ x,AV.c .f64 0 x=.c .f64 (0#64).toNat x:=fun _=>id rfl
 rw [evW_some,G0]
 simp only [Pmath_Inf]
 by_cases h1:a0≥0
 all_goals simp -implicitDefEqProofs only [*,a58,flf_0,flx_0,fly_0,EVA.down,ne_eq,seval]
theorem vmath_Inf {D F n:Nat}{args:List AV}{h:AHeap}:OV F (D+1) 58 args h n (n+1)=evW 3 (OV F D) F a58 (frzs (frz true 0 (bif AV.nors args then [] else h) 8) args) (AV.nors args) (hglb h 3):=evV_frozen rfl
theorem emath_ldexp (D:Nat)(hD:1≤D)(F:Nat)(a0:BitVec 64)(a1:Int)(q:Bool):evW 3 (OV F D) F a45 (some [.f .f64 (a0).toNat,.i .i64 a1]) q G0 =
 match Pmath_ldexp a0 a1 with|none=>none|some r0=>some (.f .f64 (r0).toNat,none):=by
 obtain ⟨D,rfl⟩:=dex hD
 have u52:AV.i .u64 52=.i .u64 (U 52#64):=id rfl
 have u9218868437227405312:AV.i .u64 9218868437227405312=.i .u64 (U 9218868437227405312#64):=id rfl
 have flf_0:AV.f .f64 0=.f .f64 (0#64).toNat:=id rfl
 have flx_0:∀ x,AV.c .f64 x 0=.c .f64 x (0#64).toNat:=fun _=>id rfl
 have fly_0:∀ x,AV.c .f64 0 x=.c .f64 (0#64).toNat x:=fun _=>id rfl
 have flf_4368491638549381120:AV.f .f64 4368491638549381120=.f .f64 (4368491638549381120#64).toNat:=id rfl
 have flx_4368491638549381120:∀ x,AV.c .f64 x 4368491638549381120=.c .f64 x (4368491638549381120#64).toNat:=fun _=>id rfl
 have fly_4368491638549381120:∀ x,AV.c .f64 4368491638549381120 x=.c .f64 (4368491638549381120#64).toNat x:=fun _=>id rfl
 have flf_4607182418800017408:AV.f .f64 4607182418800017408=.f .f64 (4607182418800017408#64).toNat:=id rfl
 have flx_4607182418800017408:∀ x,AV.c .f64 x 4607182418800017408=.c .f64 x (4607182418800017408#64).toNat:=fun _=>id rfl
 have fly_4607182418800017408:∀ x,AV.c .f64 4607182418800017408 x=.c .f64 (4607182418800017408#64).toNat x:=fun _=>id rfl
 have cmath_IsInf0:=emath_IsInf (D) (by omega) F
 have cmath_IsNaN0:=emath_IsNaN (D) (by omega) F
 have cmath_normalize0:=emath_normalize (D) (by omega) F
 have cmath_Copysign0:=emath_Copysign (D) (by omega) F
 have cmath_Inf0:=emath_Inf (D) (by omega) F
 rw [evW_some,G0]
 simp only [Pmath_ldexp]
 rcases h1:(fCmp .eql a0 0#64) with _|_
 rcases h2:((Pmath_IsInf a0 0)) with _|_
 rcases h3:((Pmath_IsNaN a0)) with _|_
 rcases h4:(Pmath_normalize a0) with ⟨r1,r2⟩
 rcases h5:(fNaN r1) with _|_
 by_cases h6:(IntKind.i64.wrap ((IntKind.i64.wrap (a1+r2))+(IntKind.i64.wrap ((bitop .and .i64 ((r1 >>> (52:Nat)).toInt) 2047)-1023))))<(((-1075):Int))
 rcases h7:(Pmath_Copysign 0#64 r1) with _|r3
 rotate_left
 rotate_left
 by_cases h8:(IntKind.i64.wrap ((IntKind.i64.wrap (a1+r2))+(IntKind.i64.wrap ((bitop .and .i64 ((r1 >>> (52:Nat)).toInt) 2047)-1023))))>1023
 rcases h9:(fCmp .lss r1 0#64) with _|_
 rotate_left
 rotate_left
 by_cases h10:(IntKind.i64.wrap ((IntKind.i64.wrap (a1+r2))+(IntKind.i64.wrap ((bitop .and .i64 ((r1 >>> (52:Nat)).toInt) 2047)-1023))))<(((-1022):Int))
 all_goals simp -implicitDefEqProofs only [*,a45,flf_0,flx_0,fly_0,flf_4368491638549381120,flx_4368491638549381120,fly_4368491638549381120,flf_4607182418800017408,flx_4607182418800017408,fly_4607182418800017408,vmath_IsInf,vmath_IsNaN,vmath_normalize,vmath_Copysign,vmath_Inf,EVA.down,ne_eq,seval]
theorem vmath_ldexp {D F n:Nat}{args:List AV}{h:AHeap}:OV F (D+1) 45 args h n (n+1)=evW 3 (OV F D) F a45 (frzs (frz true 0 (bif AV.nors args then [] else h) 8) args) (AV.nors args) (hglb h 3):=evV_frozen rfl
theorem emath_Ldexp (D:Nat)(hD:2≤D)(F:Nat)(a0:BitVec 64)(a1:Int)(q:Bool):evW 3 (OV F D) F a26 (some [.f .f64 (a0).toNat,.i .i64 a1]) q G0 =
 match Pmath_Ldexp a0 a1 with|none=>none|some r0=>some (.f .f64 (r0).toNat,none):=by
 obtain ⟨D,rfl⟩:=dex hD
 have flf_0:AV.f .f64 0=.f .f64 (0#64).toNat:=id rfl
 have flx_0:∀ x,AV.c .f64 x 0=.c .f64 x (0#64).toNat:=fun _=>id rfl
 have fly_0:∀ x,AV.c .f64 0 x=.c .f64 (0#64).toNat x:=fun _=>id rfl
 have cmath_ldexp0:=emath_ldexp (D+1) (by omega) F
 rw [evW_some,G0]
 simp only [Pmath_Ldexp]
 rcases h1:(Pmath_ldexp a0 a1) with _|r1
 all_goals simp -implicitDefEqProofs only [*,a26,flf_0,flx_0,fly_0,vmath_ldexp,EVA.down,ne_eq,seval]
theorem vmath_Ldexp {D F n:Nat}{args:List AV}{h:AHeap}:OV F (D+1) 26 args h n (n+1)=evW 3 (OV F D) F a26 (frzs (frz true 0 (bif AV.nors args then [] else h) 8) args) (AV.nors args) (hglb h 3):=evV_frozen rfl
theorem wplane_both {D F n:Nat}{args:List AV}{h:AHeap}:OV F (D+1) 39 args h n (n+1)=match frzs (frz true 0 (bif AV.nors args then [] else h) 8) args with|none=>none|some zs=>match evFn (OV F D) 3 F a39 zs (hglb h 3) 3 with|none=>none|some (v,h',_)=>match frz (AV.nors args) 3 h' 8 v with|some v'=>some (v',none)|none=>none:=(evV_frozen rfl).trans rfl
theorem wplane_Half_1 {D F n:Nat}{args:List AV}{h:AHeap}:OV F (D+1) 40 args h n (n+1)=match frzs (frz true 0 (bif AV.nors args then [] else h) 8) args with|none=>none|some zs=>match evFn (OV F D) 3 F a40 zs (hglb h 3) 3 with|none=>none|some (v,h',_)=>match frz (AV.nors args) 3 h' 8 v with|some v'=>some (v',none)|none=>none:=(evV_frozen rfl).trans rfl
theorem eplane_Half (D:Nat)(hD:5≤D)(F:Nat)(a0_re a0_im:BitVec 64)(a1:Int)(q:Bool):evW 3 (OV F D) F a17 (some [.c .f64 (a0_re).toNat (a0_im).toNat,.i .i64 a1]) q G0 =
 match Pplane_Half a0_re a0_im a1 with|none=>none|some (r0,r1,r2)=>some (.tup [.c .f64 (r0).toNat (r1).toNat,.i .i64 r2],none):=by
 obtain ⟨D,rfl⟩:=dex hD
 have flc_0_0:AV.c .f64 0 0=.c .f64 (0#64).toNat (0#64).toNat:=id rfl
 have flf_0:AV.f .f64 0=.f .f64 (0#64).toNat:=id rfl
 have flx_0:∀ x,AV.c .f64 x 0=.c .f64 x (0#64).toNat:=fun _=>id rfl
 have fly_0:∀ x,AV.c .f64 0 x=.c .f64 (0#64).toNat x:=fun _=>id rfl
 have cmath_Ldexp2:=emath_Ldexp (D+2) (by omega) F
 rw [evW_some,G0]
 simp only [Pplane_Half]
 by_cases h1:a1<0
 rotate_left
 by_cases h2:a1>2000
 rotate_left
 rcases h3:(Pmath_Ldexp a0_re (IntKind.i64.wrap (0-a1))) with _|r1
 rotate_left
 rcases h4:(Pmath_Ldexp a0_im (IntKind.i64.wrap (0-a1))) with _|r2
 all_goals simp -implicitDefEqProofs only [*,a17,flc_0_0,flf_0,flx_0,fly_0,vmath_Ldexp,a39,wplane_both,a40,wplane_Half_1,EVA.down,ne_eq,seval]
theorem vplane_Half {D F n:Nat}{args:List AV}{h:AHeap}:OV F (D+1) 17 args h n (n+1)=evW 3 (OV F D) F a17 (frzs (frz true 0 (bif AV.nors args then [] else h) 8) args) (AV.nors args) (hglb h 3):=evV_frozen rfl
theorem escalar_Plus (D:Nat)(hD:0≤D)(F:Nat)(a0:BitVec 64)(q:Bool):evW 3 (OV F D) F a42 (some [.f .f64 (a0).toNat]) q G0 =
 some (.f .f64 ((Pscalar_Plus a0)).toNat,none):=by
 have flf_0:AV.f .f64 0=.f .f64 (0#64).toNat:=id rfl
 have flx_0:∀ x,AV.c .f64 x 0=.c .f64 x (0#64).toNat:=fun _=>id rfl
 have fly_0:∀ x,AV.c .f64 0 x=.c .f64 (0#64).toNat x:=fun _=>id rfl
 rw [evW_some,G0]
 skip
 all_goals simp -implicitDefEqProofs only [*,a42,Pscalar_Plus,flf_0,flx_0,fly_0,EVA.down,ne_eq,seval]
theorem vscalar_Plus {D F n:Nat}{args:List AV}{h:AHeap}:OV F (D+1) 42 args h n (n+1)=evW 3 (OV F D) F a42 (frzs (frz true 0 (bif AV.nors args then [] else h) 8) args) (AV.nors args) (hglb h 3):=evV_frozen rfl
theorem eplane_Clean (D:Nat)(hD:2≤D)(F:Nat)(a0_re a0_im:BitVec 64)(q:Bool):evW 3 (OV F D) F a19 (some [.c .f64 (a0_re).toNat (a0_im).toNat]) q G0 =
 match Pplane_Clean a0_re a0_im with|(r0,r1)=>some (.c .f64 (r0).toNat (r1).toNat,none):=by
 obtain ⟨D,rfl⟩:=dex hD
 have flc_0_0:AV.c .f64 0 0=.c .f64 (0#64).toNat (0#64).toNat:=id rfl
 have cscalar_Plus1:=escalar_Plus (D) (by omega) F
 rw [evW_some,G0]
 skip
 all_goals simp -implicitDefEqProofs only [*,a19,Pplane_Clean,flc_0_0,vscalar_Plus,a39,wplane_both,EVA.down,ne_eq,seval]
theorem vplane_Clean {D F n:Nat}{args:List AV}{h:AHeap}:OV F (D+1) 19 args h n (n+1)=evW 3 (OV F D) F a19 (frzs (frz true 0 (bif AV.nors args then [] else h) 8) args) (AV.nors args) (hglb h 3):=evV_frozen rfl
theorem lexpect_RebuildL2 (D:Nat)(hD:3≤D)(F:Nat)(K:AE→AS→Option Res):∀ (f:Nat) (v0:List (BitVec 64)) (v1 v2 v3 v4 v5 v6 v7 v8 v9 v10 v11 v12 v13:Int) (v14 v15:List Cpx) (s:AS),s.keepG 3 [0,2,4,5,6,7,8,9,10,11,24,25,28,29,35,36] [2,7]=some ⟨[(0,.vs v0.length .unk (enc c34 v0)),(2,.lp 2 0),(4,.i .i64 v1),(5,.i .i64 v2),(6,.fn (.func 14) [] []),(7,.lp 7 0),(8,.i .i64 v3),(9,.i .i64 v4),(10,.i .i64 v5),(11,.sl (some (3,0)) v14.length .op),(24,.i .i64 v6),(25,.i .i64 v7),(28,.i .i64 v8),(29,.i .i64 v9),(35,.i .i64 v10),(36,.i .i64 v11)],[(2,[.i .i64 v12,.sl none 0 (.ex 0)]),(7,[.i .i64 v13,.sl (some (4,0)) v15.length .op])],[(3,⟨true,true,49,1,enc Cpx.cells v14⟩),(4,⟨true,true,49,1,enc Cpx.cells v15⟩),(1,tab64)],5⟩→
 evLoop (evC (OV F D) 3 F a4L0) f s K=match Pexpect_RebuildL2 f v0 v1 v2 v3 v4 v5 v6 v7 v8 v9 v10 v11 v12 v13 v14 v15 with|none=>none|some (.inl (y0,y1,y2,y3,y4,y5,y6,y7,y8,y9,y10))=>K (.ex 4) ⟨[(0,.vs y0.length .unk (enc c34 y0)),(2,.lp 2 0),(4,.i .i64 y1),(5,.i .i64 y2),(6,.fn (.func 14) [] []),(7,.lp 7 0),(8,.i .i64 y3),(11,.sl none 0 (.ex 0)),(24,.i .i64 y4),(25,.i .i64 y5),(28,.i .i64 y6),(29,.i .i64 y7)],[(2,[.i .i64 y8,.sl none 0 (.ex 0)]),(7,[.i .i64 y9,.sl (some (3,0)) y10.length .op])],[(3,⟨true,true,49,1,enc Cpx.cells y10⟩),(1,tab64)],4⟩|some (.inr (y0,y1,y2,y3,y4,y5,y6,y7,y8,y9,y10,y11))=>K (.ex 4) ⟨[(0,.vs y0.length .unk (enc c34 y0)),(2,.lp 2 0),(4,.i .i64 y1),(5,.i .i64 y2),(6,.fn (.func 14) [] []),(7,.lp 7 0),(8,.i .i64 y3),(11,.sl (some (3,0)) y10.length .op),(24,.i .i64 y4),(25,.i .i64 y5),(28,.i .i64 y6),(29,.i .i64 y7)],[(2,[.i .i64 y8,.sl none 0 (.ex 0)]),(7,[.i .i64 y9,.sl (some (4,0)) y11.length .op])],[(3,⟨true,true,49,1,enc Cpx.cells y10⟩),(4,⟨true,true,49,1,enc Cpx.cells y11⟩),(1,tab64)],5⟩:=by
 obtain ⟨D,rfl⟩:=dex hD
 have flc_0_0:AV.c .f64 0 0=.c .f64 (0#64).toNat (0#64).toNat:=id rfl
 have flf_0:AV.f .f64 0=.f .f64 (0#64).toNat:=id rfl
 have flx_0:∀ x,AV.c .f64 x 0=.c .f64 x (0#64).toNat:=fun _=>id rfl
 have fly_0:∀ x,AV.c .f64 0 x=.c .f64 (0#64).toNat x:=fun _=>id rfl
 have cexpect_Rebuild_10:=eexpect_Rebuild_1 (D+2) (by omega) F
 have cplane_Turn0:=eplane_Turn (D+2) (by omega) F
 intro f
 induction f with
 |zero=>intro v0 v1 v2 v3 v4 v5 v6 v7 v8 v9 v10 v11 v12 v13 v14 v15 s hs;simp only [evLoop,Pexpect_RebuildL2]
 |succ f ih=>
 intro v0 v1 v2 v3 v4 v5 v6 v7 v8 v9 v10 v11 v12 v13 v14 v15 s hs
 obtain ⟨k0,hk,hn,he,hr⟩:=@lk_all (OV F (D+3)) 3 F a4L0 f K
 rw [loop_succ,hk,a4L0,runC_cutg,hs]
 clear hs
 simp only [Pexpect_RebuildL2]
 clear hk
 by_cases h1:v11<v10
 rcases ixo (@pk_c34 v0 (IntKind.i64.wrap (v5+(IntKind.i64.wrap (v2*v11))))) with h2|⟨x1,h2⟩
 rotate_left
 rcases h3:(Pplane_Turn x1 0#64 (IntKind.i64.wrap ((Pexpect_Rebuild_1 v5 v11)+(IntKind.i64.wrap (2*(Pexpect_Rebuild_1 v4 v11)))))) with ⟨r2,r3⟩
 by_cases h4:(v14.length+1)*16≤140737488355328
 all_goals simp -implicitDefEqProofs only [*,-ih,flc_0_0,flf_0,flx_0,fly_0,vexpect_Rebuild_1,vplane_Turn,EVA.down,ne_eq,seval]
 all_goals exact ih _ _ _ _ _ _ _ _ _ _ _ _ _ _ _ _ _ (by simp only [*,-ih,flc_0_0,flf_0,flx_0,fly_0,vexpect_Rebuild_1,vplane_Turn,EVA.down,ne_eq,seval])
theorem lexpect_RebuildL3 (D:Nat)(hD:3≤D)(F:Nat)(K:AE→AS→Option Res):∀ (f:Nat) (v0:List (BitVec 64)) (v1 v2 v3 v4 v5 v6 v7 v8 v9 v10 v11 v12 v13:Int) (v14:List Cpx) (s:AS),s.keepG 3 [0,2,4,5,6,7,8,9,10,11,24,25,28,29,35,36] [2,7]=some ⟨[(0,.vs v0.length .unk (enc c34 v0)),(2,.lp 2 0),(4,.i .i64 v1),(5,.i .i64 v2),(6,.fn (.func 14) [] []),(7,.lp 7 0),(8,.i .i64 v3),(9,.i .i64 v4),(10,.i .i64 v5),(11,.sl none 0 (.ex 0)),(24,.i .i64 v6),(25,.i .i64 v7),(28,.i .i64 v8),(29,.i .i64 v9),(35,.i .i64 v10),(36,.i .i64 v11)],[(2,[.i .i64 v12,.sl none 0 (.ex 0)]),(7,[.i .i64 v13,.sl (some (3,0)) v14.length .op])],[(3,⟨true,true,49,1,enc Cpx.cells v14⟩),(1,tab64)],4⟩→
 evLoop (evC (OV F D) 3 F a4L0) f s K=match Pexpect_RebuildL3 f v0 v1 v2 v3 v4 v5 v6 v7 v8 v9 v10 v11 v12 v13 v14 with|none=>none|some (.inl (y0,y1,y2,y3,y4,y5,y6,y7,y8,y9,y10))=>K (.ex 4) ⟨[(0,.vs y0.length .unk (enc c34 y0)),(2,.lp 2 0),(4,.i .i64 y1),(5,.i .i64 y2),(6,.fn (.func 14) [] []),(7,.lp 7 0),(8,.i .i64 y3),(11,.sl none 0 (.ex 0)),(24,.i .i64 y4),(25,.i .i64 y5),(28,.i .i64 y6),(29,.i .i64 y7)],[(2,[.i .i64 y8,.sl none 0 (.ex 0)]),(7,[.i .i64 y9,.sl (some (3,0)) y10.length .op])],[(3,⟨true,true,49,1,enc Cpx.cells y10⟩),(1,tab64)],4⟩|some (.inr (y0,y1,y2,y3,y4,y5,y6,y7,y8,y9,y10,y11))=>K (.ex 4) ⟨[(0,.vs y0.length .unk (enc c34 y0)),(2,.lp 2 0),(4,.i .i64 y1),(5,.i .i64 y2),(6,.fn (.func 14) [] []),(7,.lp 7 0),(8,.i .i64 y3),(11,.sl (some (3,0)) y10.length .op),(24,.i .i64 y4),(25,.i .i64 y5),(28,.i .i64 y6),(29,.i .i64 y7)],[(2,[.i .i64 y8,.sl none 0 (.ex 0)]),(7,[.i .i64 y9,.sl (some (4,0)) y11.length .op])],[(3,⟨true,true,49,1,enc Cpx.cells y10⟩),(4,⟨true,true,49,1,enc Cpx.cells y11⟩),(1,tab64)],5⟩:=by
 obtain ⟨D,rfl⟩:=dex hD
 have flc_0_0:AV.c .f64 0 0=.c .f64 (0#64).toNat (0#64).toNat:=id rfl
 have flf_0:AV.f .f64 0=.f .f64 (0#64).toNat:=id rfl
 have flx_0:∀ x,AV.c .f64 x 0=.c .f64 x (0#64).toNat:=fun _=>id rfl
 have fly_0:∀ x,AV.c .f64 0 x=.c .f64 (0#64).toNat x:=fun _=>id rfl
 have cexpect_Rebuild_10:=eexpect_Rebuild_1 (D+2) (by omega) F
 have cplane_Turn0:=eplane_Turn (D+2) (by omega) F
 have nlexpect_RebuildL2:=lexpect_RebuildL2 (D+3) (by omega) F K
 intro f
 induction f with
 |zero=>intro v0 v1 v2 v3 v4 v5 v6 v7 v8 v9 v10 v11 v12 v13 v14 s hs;simp only [evLoop,Pexpect_RebuildL3]
 |succ f ih=>
 intro v0 v1 v2 v3 v4 v5 v6 v7 v8 v9 v10 v11 v12 v13 v14 s hs
 obtain ⟨k0,hk,hn,he,hr⟩:=@lk_all (OV F (D+3)) 3 F a4L0 f K
 rw [loop_succ,hk,a4L0,runC_cutg,hs]
 clear hs
 simp only [Pexpect_RebuildL3]
 clear hk
 by_cases h1:v11<v10
 rcases ixo (@pk_c34 v0 (IntKind.i64.wrap (v5+(IntKind.i64.wrap (v2*v11))))) with h2|⟨x1,h2⟩
 rotate_left
 rcases h3:(Pplane_Turn x1 0#64 (IntKind.i64.wrap ((Pexpect_Rebuild_1 v5 v11)+(IntKind.i64.wrap (2*(Pexpect_Rebuild_1 v4 v11)))))) with ⟨r2,r3⟩
 all_goals simp -implicitDefEqProofs only [*,-ih,flc_0_0,flf_0,flx_0,fly_0,vexpect_Rebuild_1,vplane_Turn,EVA.down,ne_eq,seval]
 all_goals exact nlexpect_RebuildL2 f _ _ _ _ _ _ _ _ _ _ _ _ _ _ _ _ _ (by simp only [*,-ih,flc_0_0,flf_0,flx_0,fly_0,vexpect_Rebuild_1,vplane_Turn,EVA.down,ne_eq,seval])
theorem lexpect_RebuildL4 (D:Nat)(hD:6≤D)(F:Nat)(K:AE→AS→Option Res):∀ (f:Nat) (v0:List (BitVec 64)) (v1 v2 v3 v4 v5 v6 v7 v8 v9:Int) (v10:List Cpx) (s:AS),s.keepG 3 [0,2,4,5,6,7,8,24,25,28,29] [2,7]=some ⟨[(0,.vs v0.length .unk (enc c34 v0)),(2,.lp 2 0),(4,.i .i64 v1),(5,.i .i64 v2),(6,.fn (.func 14) [] []),(7,.lp 7 0),(8,.i .i64 v3),(24,.i .i64 v4),(25,.i .i64 v5),(28,.i .i64 v6),(29,.i .i64 v7)],[(2,[.i .i64 v8,.sl none 0 (.ex 0)]),(7,[.i .i64 v9,.sl (some (3,0)) v10.length .op])],[(3,⟨true,true,49,1,enc Cpx.cells v10⟩),(1,tab64)],4⟩→
 evLoop (evC (OV F D) 3 F a4L1) f s K=match Pexpect_RebuildL4 F f v0 v1 v2 v3 v4 v5 v6 v7 v8 v9 v10 with|none=>none|some (.inl (y0,y1,y2,y3,y4,y5,y6))=>K (.ex 2) ⟨[(0,.vs y0.length .unk (enc c34 y0)),(2,.lp 2 0),(4,.i .i64 y1),(5,.i .i64 y2),(6,.fn (.func 14) [] []),(7,.lp 7 0),(24,.i .i64 y3),(25,.i .i64 y4)],[(2,[.i .i64 y5,.sl none 0 (.ex 0)]),(7,[.i .i64 y6,.sl none 0 (.ex 0)])],[(1,tab64)],3⟩|some (.inr (y0,y1,y2,y3,y4,y5,y6,y7))=>K (.ex 2) ⟨[(0,.vs y0.length .unk (enc c34 y0)),(2,.lp 2 0),(4,.i .i64 y1),(5,.i .i64 y2),(6,.fn (.func 14) [] []),(7,.lp 7 0),(24,.i .i64 y3),(25,.i .i64 y4)],[(2,[.i .i64 y5,.sl none 0 (.ex 0)]),(7,[.i .i64 y6,.sl (some (3,0)) y7.length .op])],[(3,⟨true,true,49,1,enc Cpx.cells y7⟩),(1,tab64)],4⟩:=by
 obtain ⟨D,rfl⟩:=dex hD
 have flc_0_0:AV.c .f64 0 0=.c .f64 (0#64).toNat (0#64).toNat:=id rfl
 have cplane_Half0:=eplane_Half (D+5) (by omega) F
 have cplane_Sum0:=eplane_Sum (D+5) (by omega) F
 have cplane_Clean0:=eplane_Clean (D+5) (by omega) F
 have cplane_Sum0_0:=eplane_Sum (D+5) (by omega) F []
 simp only [List.length_nil,enc_nil] at cplane_Sum0_0
 intro f
 induction f with
 |zero=>intro v0 v1 v2 v3 v4 v5 v6 v7 v8 v9 v10 s hs;simp only [evLoop,Pexpect_RebuildL4]
 |succ f ih=>
 intro v0 v1 v2 v3 v4 v5 v6 v7 v8 v9 v10 s hs
 obtain ⟨k0,hk,hn,he,hr⟩:=@lk_all (OV F (D+6)) 3 F a4L1 f K
 rw [loop_succ,hk,a4L1,runC_cutg,hs]
 clear hs
 simp only [Pexpect_RebuildL4]
 clear hk
 by_cases h1:v7<v6
 simp -implicitDefEqProofs only [*,-ih,flc_0_0,vplane_Half,vplane_Sum,vplane_Clean,runC_loop,EVA.down,ne_eq,seval]
 rw [lexpect_RebuildL3 (D+6) (by omega) F  _ F v0 v1 v2 v3 v7 (bitop .xor .i64 v3 v7) v4 v5 v6 v7 v2 0 v8 v9 v10 _ (by simp only [*,-ih,flc_0_0,vplane_Half,vplane_Sum,vplane_Clean,EVA.down,ne_eq,seval];try rfl)]
 rcases h2:(Pexpect_RebuildL3 F v0 v1 v2 v3 v7 (bitop .xor .i64 v3 v7) v4 v5 v6 v7 v2 0 v8 v9 v10) with _|(⟨y1,y2,y3,y4,y5,y6,y7,y8,y9,y10,y11⟩|⟨y12,y13,y14,y15,y16,y17,y18,y19,y20,y21,y22,y23⟩)
 rotate_left
 rcases h3:(Pplane_Sum F ([])) with _|⟨r24,r25⟩
 rotate_left
 rcases h4:(Pplane_Half r24 r25 y2) with _|⟨r26,r27,r28⟩
 rotate_left
 rcases h5:(Pplane_Clean r26 r27) with ⟨r29,r30⟩
 by_cases h6:(y11.length+1)*16≤140737488355328
 rotate_left
 rotate_left
 rcases h7:(Pplane_Sum F y22) with _|⟨r31,r32⟩
 rotate_left
 rcases h8:(Pplane_Half r31 r32 y13) with _|⟨r33,r34,r35⟩
 rotate_left
 rcases h9:(Pplane_Clean r33 r34) with ⟨r36,r37⟩
 by_cases h10:(y23.length+1)*16≤140737488355328
 all_goals simp -implicitDefEqProofs only [*,-ih,flc_0_0,vplane_Half,vplane_Sum,vplane_Clean,EVA.down,ne_eq,seval]
 all_goals exact ih _ _ _ _ _ _ _ _ _ _ _ _ (by simp only [*,-ih,flc_0_0,vplane_Half,vplane_Sum,vplane_Clean,EVA.down,ne_eq,seval])
theorem lexpect_RebuildL5 (D:Nat)(hD:6≤D)(F:Nat)(K:AE→AS→Option Res):∀ (f:Nat) (v0:List (BitVec 64)) (v1 v2 v3 v4 v5 v6 v7 v8 v9:Int) (s:AS),s.keepG 3 [0,2,4,5,6,7,8,24,25,28,29] [2,7]=some ⟨[(0,.vs v0.length .unk (enc c34 v0)),(2,.lp 2 0),(4,.i .i64 v1),(5,.i .i64 v2),(6,.fn (.func 14) [] []),(7,.lp 7 0),(8,.i .i64 v3),(24,.i .i64 v4),(25,.i .i64 v5),(28,.i .i64 v6),(29,.i .i64 v7)],[(2,[.i .i64 v8,.sl none 0 (.ex 0)]),(7,[.i .i64 v9,.sl none 0 (.ex 0)])],[(1,tab64)],3⟩→
 evLoop (evC (OV F D) 3 F a4L1) f s K=match Pexpect_RebuildL5 F f v0 v1 v2 v3 v4 v5 v6 v7 v8 v9 with|none=>none|some (.inl (y0,y1,y2,y3,y4,y5,y6))=>K (.ex 2) ⟨[(0,.vs y0.length .unk (enc c34 y0)),(2,.lp 2 0),(4,.i .i64 y1),(5,.i .i64 y2),(6,.fn (.func 14) [] []),(7,.lp 7 0),(24,.i .i64 y3),(25,.i .i64 y4)],[(2,[.i .i64 y5,.sl none 0 (.ex 0)]),(7,[.i .i64 y6,.sl none 0 (.ex 0)])],[(1,tab64)],3⟩|some (.inr (y0,y1,y2,y3,y4,y5,y6,y7))=>K (.ex 2) ⟨[(0,.vs y0.length .unk (enc c34 y0)),(2,.lp 2 0),(4,.i .i64 y1),(5,.i .i64 y2),(6,.fn (.func 14) [] []),(7,.lp 7 0),(24,.i .i64 y3),(25,.i .i64 y4)],[(2,[.i .i64 y5,.sl none 0 (.ex 0)]),(7,[.i .i64 y6,.sl (some (3,0)) y7.length .op])],[(3,⟨true,true,49,1,enc Cpx.cells y7⟩),(1,tab64)],4⟩:=by
 obtain ⟨D,rfl⟩:=dex hD
 have flc_0_0:AV.c .f64 0 0=.c .f64 (0#64).toNat (0#64).toNat:=id rfl
 have cplane_Half0:=eplane_Half (D+5) (by omega) F
 have cplane_Sum0:=eplane_Sum (D+5) (by omega) F
 have cplane_Clean0:=eplane_Clean (D+5) (by omega) F
 have cplane_Sum0_0:=eplane_Sum (D+5) (by omega) F []
 simp only [List.length_nil,enc_nil] at cplane_Sum0_0
 have nlexpect_RebuildL4:=lexpect_RebuildL4 (D+6) (by omega) F K
 intro f
 induction f with
 |zero=>intro v0 v1 v2 v3 v4 v5 v6 v7 v8 v9 s hs;simp only [evLoop,Pexpect_RebuildL5]
 |succ f ih=>
 intro v0 v1 v2 v3 v4 v5 v6 v7 v8 v9 s hs
 obtain ⟨k0,hk,hn,he,hr⟩:=@lk_all (OV F (D+6)) 3 F a4L1 f K
 rw [loop_succ,hk,a4L1,runC_cutg,hs]
 clear hs
 simp only [Pexpect_RebuildL5]
 clear hk
 by_cases h1:v7<v6
 simp -implicitDefEqProofs only [*,-ih,flc_0_0,vplane_Half,vplane_Sum,vplane_Clean,runC_loop,EVA.down,ne_eq,seval]
 rw [lexpect_RebuildL1 (D+6) (by omega) F  _ F v0 v1 v2 v3 v7 (bitop .xor .i64 v3 v7) v4 v5 v6 v7 v2 0 v8 v9 _ (by simp only [*,-ih,flc_0_0,vplane_Half,vplane_Sum,vplane_Clean,EVA.down,ne_eq,seval];try rfl)]
 rcases h2:(Pexpect_RebuildL1 F v0 v1 v2 v3 v7 (bitop .xor .i64 v3 v7) v4 v5 v6 v7 v2 0 v8 v9) with _|(⟨y1,y2,y3,y4,y5,y6,y7,y8,y9,y10⟩|⟨y11,y12,y13,y14,y15,y16,y17,y18,y19,y20,y21⟩)
 rotate_left
 rcases h3:(Pplane_Sum F ([])) with _|⟨r22,r23⟩
 rotate_left
 rcases h4:(Pplane_Half r22 r23 y2) with _|⟨r24,r25,r26⟩
 rotate_left
 rcases h5:(Pplane_Clean r24 r25) with ⟨r27,r28⟩
 rotate_left
 rcases h6:(Pplane_Sum F y21) with _|⟨r29,r30⟩
 rotate_left
 rcases h7:(Pplane_Half r29 r30 y12) with _|⟨r31,r32,r33⟩
 rotate_left
 rcases h8:(Pplane_Clean r31 r32) with ⟨r34,r35⟩
 all_goals simp -implicitDefEqProofs only [*,-ih,flc_0_0,vplane_Half,vplane_Sum,vplane_Clean,EVA.down,ne_eq,seval]
 all_goals exact nlexpect_RebuildL4 f _ _ _ _ _ _ _ _ _ _ _ _ (by simp only [*,-ih,flc_0_0,vplane_Half,vplane_Sum,vplane_Clean,EVA.down,ne_eq,seval])
theorem lexpect_RebuildL6 (D:Nat)(hD:3≤D)(F:Nat)(K:AE→AS→Option Res):∀ (f:Nat) (v0:List (BitVec 64)) (v1 v2 v3 v4 v5 v6 v7 v8 v9 v10 v11 v12 v13:Int) (v14 v15:List Cpx) (s:AS),s.keepG 3 [0,2,4,5,6,7,8,9,10,11,24,25,28,29,35,36] [2,7]=some ⟨[(0,.vs v0.length .unk (enc c34 v0)),(2,.lp 2 0),(4,.i .i64 v1),(5,.i .i64 v2),(6,.fn (.func 14) [] []),(7,.lp 7 0),(8,.i .i64 v3),(9,.i .i64 v4),(10,.i .i64 v5),(11,.sl (some (3,0)) v14.length .op),(24,.i .i64 v6),(25,.i .i64 v7),(28,.i .i64 v8),(29,.i .i64 v9),(35,.i .i64 v10),(36,.i .i64 v11)],[(2,[.i .i64 v12,.sl none 0 (.ex 0)]),(7,[.i .i64 v13,.sl (some (4,0)) v15.length .op])],[(3,⟨true,true,49,1,enc Cpx.cells v14⟩),(4,⟨true,true,49,1,enc Cpx.cells v15⟩),(1,tab64)],5⟩→
 evLoop (evC (OV F D) 3 F a4L0) f s K=match Pexpect_RebuildL6 f v0 v1 v2 v3 v4 v5 v6 v7 v8 v9 v10 v11 v12 v13 v14 v15 with|none=>none|some (.inl (y0,y1,y2,y3,y4,y5,y6,y7,y8,y9,y10))=>K (.ex 4) ⟨[(0,.vs y0.length .unk (enc c34 y0)),(2,.lp 2 0),(4,.i .i64 y1),(5,.i .i64 y2),(6,.fn (.func 14) [] []),(7,.lp 7 0),(8,.i .i64 y3),(11,.sl none 0 (.ex 0)),(24,.i .i64 y4),(25,.i .i64 y5),(28,.i .i64 y6),(29,.i .i64 y7)],[(2,[.i .i64 y8,.sl none 0 (.ex 0)]),(7,[.i .i64 y9,.sl (some (3,0)) y10.length .op])],[(3,⟨true,true,49,1,enc Cpx.cells y10⟩),(1,tab64)],4⟩|some (.inr (y0,y1,y2,y3,y4,y5,y6,y7,y8,y9,y10,y11))=>K (.ex 4) ⟨[(0,.vs y0.length .unk (enc c34 y0)),(2,.lp 2 0),(4,.i .i64 y1),(5,.i .i64 y2),(6,.fn (.func 14) [] []),(7,.lp 7 0),(8,.i .i64 y3),(11,.sl (some (3,0)) y10.length .op),(24,.i .i64 y4),(25,.i .i64 y5),(28,.i .i64 y6),(29,.i .i64 y7)],[(2,[.i .i64 y8,.sl none 0 (.ex 0)]),(7,[.i .i64 y9,.sl (some (4,0)) y11.length .op])],[(3,⟨true,true,49,1,enc Cpx.cells y10⟩),(4,⟨true,true,49,1,enc Cpx.cells y11⟩),(1,tab64)],5⟩:=by
 obtain ⟨D,rfl⟩:=dex hD
 have flc_0_0:AV.c .f64 0 0=.c .f64 (0#64).toNat (0#64).toNat:=id rfl
 have flf_0:AV.f .f64 0=.f .f64 (0#64).toNat:=id rfl
 have flx_0:∀ x,AV.c .f64 x 0=.c .f64 x (0#64).toNat:=fun _=>id rfl
 have fly_0:∀ x,AV.c .f64 0 x=.c .f64 (0#64).toNat x:=fun _=>id rfl
 have cexpect_Rebuild_10:=eexpect_Rebuild_1 (D+2) (by omega) F
 have cplane_Turn0:=eplane_Turn (D+2) (by omega) F
 intro f
 induction f with
 |zero=>intro v0 v1 v2 v3 v4 v5 v6 v7 v8 v9 v10 v11 v12 v13 v14 v15 s hs;simp only [evLoop,Pexpect_RebuildL6]
 |succ f ih=>
 intro v0 v1 v2 v3 v4 v5 v6 v7 v8 v9 v10 v11 v12 v13 v14 v15 s hs
 obtain ⟨k0,hk,hn,he,hr⟩:=@lk_all (OV F (D+3)) 3 F a4L0 f K
 rw [loop_succ,hk,a4L0,runC_cutg,hs]
 clear hs
 simp only [Pexpect_RebuildL6]
 clear hk
 by_cases h1:v11<v10
 rcases ixo (@pk_c34 v0 (IntKind.i64.wrap (v5+(IntKind.i64.wrap (v2*v11))))) with h2|⟨x1,h2⟩
 rotate_left
 rcases h3:(Pplane_Turn x1 0#64 (IntKind.i64.wrap ((Pexpect_Rebuild_1 v5 v11)+(IntKind.i64.wrap (2*(Pexpect_Rebuild_1 v4 v11)))))) with ⟨r2,r3⟩
 by_cases h4:(v14.length+1)*16≤140737488355328
 all_goals simp -implicitDefEqProofs only [*,-ih,flc_0_0,flf_0,flx_0,fly_0,vexpect_Rebuild_1,vplane_Turn,EVA.down,ne_eq,seval]
 all_goals exact ih _ _ _ _ _ _ _ _ _ _ _ _ _ _ _ _ _ (by simp only [*,-ih,flc_0_0,flf_0,flx_0,fly_0,vexpect_Rebuild_1,vplane_Turn,EVA.down,ne_eq,seval])
theorem lexpect_RebuildL7 (D:Nat)(hD:3≤D)(F:Nat)(K:AE→AS→Option Res):∀ (f:Nat) (v0:List (BitVec 64)) (v1 v2 v3 v4 v5 v6 v7 v8 v9 v10 v11 v12 v13:Int) (v14:List Cpx) (s:AS),s.keepG 3 [0,2,4,5,6,7,8,9,10,11,24,25,28,29,35,36] [2,7]=some ⟨[(0,.vs v0.length .unk (enc c34 v0)),(2,.lp 2 0),(4,.i .i64 v1),(5,.i .i64 v2),(6,.fn (.func 14) [] []),(7,.lp 7 0),(8,.i .i64 v3),(9,.i .i64 v4),(10,.i .i64 v5),(11,.sl none 0 (.ex 0)),(24,.i .i64 v6),(25,.i .i64 v7),(28,.i .i64 v8),(29,.i .i64 v9),(35,.i .i64 v10),(36,.i .i64 v11)],[(2,[.i .i64 v12,.sl none 0 (.ex 0)]),(7,[.i .i64 v13,.sl (some (3,0)) v14.length .op])],[(3,⟨true,true,49,1,enc Cpx.cells v14⟩),(1,tab64)],4⟩→
 evLoop (evC (OV F D) 3 F a4L0) f s K=match Pexpect_RebuildL7 f v0 v1 v2 v3 v4 v5 v6 v7 v8 v9 v10 v11 v12 v13 v14 with|none=>none|some (.inl (y0,y1,y2,y3,y4,y5,y6,y7,y8,y9,y10))=>K (.ex 4) ⟨[(0,.vs y0.length .unk (enc c34 y0)),(2,.lp 2 0),(4,.i .i64 y1),(5,.i .i64 y2),(6,.fn (.func 14) [] []),(7,.lp 7 0),(8,.i .i64 y3),(11,.sl none 0 (.ex 0)),(24,.i .i64 y4),(25,.i .i64 y5),(28,.i .i64 y6),(29,.i .i64 y7)],[(2,[.i .i64 y8,.sl none 0 (.ex 0)]),(7,[.i .i64 y9,.sl (some (3,0)) y10.length .op])],[(3,⟨true,true,49,1,enc Cpx.cells y10⟩),(1,tab64)],4⟩|some (.inr (y0,y1,y2,y3,y4,y5,y6,y7,y8,y9,y10,y11))=>K (.ex 4) ⟨[(0,.vs y0.length .unk (enc c34 y0)),(2,.lp 2 0),(4,.i .i64 y1),(5,.i .i64 y2),(6,.fn (.func 14) [] []),(7,.lp 7 0),(8,.i .i64 y3),(11,.sl (some (3,0)) y10.length .op),(24,.i .i64 y4),(25,.i .i64 y5),(28,.i .i64 y6),(29,.i .i64 y7)],[(2,[.i .i64 y8,.sl none 0 (.ex 0)]),(7,[.i .i64 y9,.sl (some (4,0)) y11.length .op])],[(3,⟨true,true,49,1,enc Cpx.cells y10⟩),(4,⟨true,true,49,1,enc Cpx.cells y11⟩),(1,tab64)],5⟩:=by
 obtain ⟨D,rfl⟩:=dex hD
 have flc_0_0:AV.c .f64 0 0=.c .f64 (0#64).toNat (0#64).toNat:=id rfl
 have flf_0:AV.f .f64 0=.f .f64 (0#64).toNat:=id rfl
 have flx_0:∀ x,AV.c .f64 x 0=.c .f64 x (0#64).toNat:=fun _=>id rfl
 have fly_0:∀ x,AV.c .f64 0 x=.c .f64 (0#64).toNat x:=fun _=>id rfl
 have cexpect_Rebuild_10:=eexpect_Rebuild_1 (D+2) (by omega) F
 have cplane_Turn0:=eplane_Turn (D+2) (by omega) F
 have nlexpect_RebuildL6:=lexpect_RebuildL6 (D+3) (by omega) F K
 intro f
 induction f with
 |zero=>intro v0 v1 v2 v3 v4 v5 v6 v7 v8 v9 v10 v11 v12 v13 v14 s hs;simp only [evLoop,Pexpect_RebuildL7]
 |succ f ih=>
 intro v0 v1 v2 v3 v4 v5 v6 v7 v8 v9 v10 v11 v12 v13 v14 s hs
 obtain ⟨k0,hk,hn,he,hr⟩:=@lk_all (OV F (D+3)) 3 F a4L0 f K
 rw [loop_succ,hk,a4L0,runC_cutg,hs]
 clear hs
 simp only [Pexpect_RebuildL7]
 clear hk
 by_cases h1:v11<v10
 rcases ixo (@pk_c34 v0 (IntKind.i64.wrap (v5+(IntKind.i64.wrap (v2*v11))))) with h2|⟨x1,h2⟩
 rotate_left
 rcases h3:(Pplane_Turn x1 0#64 (IntKind.i64.wrap ((Pexpect_Rebuild_1 v5 v11)+(IntKind.i64.wrap (2*(Pexpect_Rebuild_1 v4 v11)))))) with ⟨r2,r3⟩
 all_goals simp -implicitDefEqProofs only [*,-ih,flc_0_0,flf_0,flx_0,fly_0,vexpect_Rebuild_1,vplane_Turn,EVA.down,ne_eq,seval]
 all_goals exact nlexpect_RebuildL6 f _ _ _ _ _ _ _ _ _ _ _ _ _ _ _ _ _ (by simp only [*,-ih,flc_0_0,flf_0,flx_0,fly_0,vexpect_Rebuild_1,vplane_Turn,EVA.down,ne_eq,seval])
theorem lexpect_RebuildL8 (D:Nat)(hD:6≤D)(F:Nat)(K:AE→AS→Option Res):∀ (f:Nat) (v0:List (BitVec 64)) (v1 v2 v3 v4 v5 v6 v7 v8 v9:Int) (v10:List Cpx) (s:AS),s.keepG 3 [0,2,4,5,6,7,8,24,25,28,29] [2,7]=some ⟨[(0,.vs v0.length .unk (enc c34 v0)),(2,.lp 2 0),(4,.i .i64 v1),(5,.i .i64 v2),(6,.fn (.func 14) [] []),(7,.lp 7 0),(8,.i .i64 v3),(24,.i .i64 v4),(25,.i .i64 v5),(28,.i .i64 v6),(29,.i .i64 v7)],[(2,[.i .i64 v8,.sl none 0 (.ex 0)]),(7,[.i .i64 v9,.sl (some (3,0)) v10.length .op])],[(3,⟨true,true,49,1,enc Cpx.cells v10⟩),(1,tab64)],4⟩→
 evLoop (evC (OV F D) 3 F a4L1) f s K=match Pexpect_RebuildL8 F f v0 v1 v2 v3 v4 v5 v6 v7 v8 v9 v10 with|none=>none|some (y0,y1,y2,y3,y4,y5,y6,y7)=>K (.ex 2) ⟨[(0,.vs y0.length .unk (enc c34 y0)),(2,.lp 2 0),(4,.i .i64 y1),(5,.i .i64 y2),(6,.fn (.func 14) [] []),(7,.lp 7 0),(24,.i .i64 y3),(25,.i .i64 y4)],[(2,[.i .i64 y5,.sl none 0 (.ex 0)]),(7,[.i .i64 y6,.sl (some (3,0)) y7.length .op])],[(3,⟨true,true,49,1,enc Cpx.cells y7⟩),(1,tab64)],4⟩:=by
 obtain ⟨D,rfl⟩:=dex hD
 have flc_0_0:AV.c .f64 0 0=.c .f64 (0#64).toNat (0#64).toNat:=id rfl
 have cplane_Half0:=eplane_Half (D+5) (by omega) F
 have cplane_Sum0:=eplane_Sum (D+5) (by omega) F
 have cplane_Clean0:=eplane_Clean (D+5) (by omega) F
 have cplane_Sum0_0:=eplane_Sum (D+5) (by omega) F []
 simp only [List.length_nil,enc_nil] at cplane_Sum0_0
 intro f
 induction f with
 |zero=>intro v0 v1 v2 v3 v4 v5 v6 v7 v8 v9 v10 s hs;simp only [evLoop,Pexpect_RebuildL8]
 |succ f ih=>
 intro v0 v1 v2 v3 v4 v5 v6 v7 v8 v9 v10 s hs
 obtain ⟨k0,hk,hn,he,hr⟩:=@lk_all (OV F (D+6)) 3 F a4L1 f K
 rw [loop_succ,hk,a4L1,runC_cutg,hs]
 clear hs
 simp only [Pexpect_RebuildL8]
 clear hk
 by_cases h1:v7<v6
 simp -implicitDefEqProofs only [*,-ih,flc_0_0,vplane_Half,vplane_Sum,vplane_Clean,runC_loop,EVA.down,ne_eq,seval]
 rw [lexpect_RebuildL7 (D+6) (by omega) F  _ F v0 v1 v2 v3 v7 (bitop .xor .i64 v3 v7) v4 v5 v6 v7 v2 0 v8 v9 v10 _ (by simp only [*,-ih,flc_0_0,vplane_Half,vplane_Sum,vplane_Clean,EVA.down,ne_eq,seval];try rfl)]
 rcases h2:(Pexpect_RebuildL7 F v0 v1 v2 v3 v7 (bitop .xor .i64 v3 v7) v4 v5 v6 v7 v2 0 v8 v9 v10) with _|(⟨y1,y2,y3,y4,y5,y6,y7,y8,y9,y10,y11⟩|⟨y12,y13,y14,y15,y16,y17,y18,y19,y20,y21,y22,y23⟩)
 rotate_left
 rcases h3:(Pplane_Sum F ([])) with _|⟨r24,r25⟩
 rotate_left
 rcases h4:(Pplane_Half r24 r25 y2) with _|⟨r26,r27,r28⟩
 rotate_left
 rcases h5:(Pplane_Clean r26 r27) with ⟨r29,r30⟩
 by_cases h6:(y11.length+1)*16≤140737488355328
 rotate_left
 rotate_left
 rcases h7:(Pplane_Sum F y22) with _|⟨r31,r32⟩
 rotate_left
 rcases h8:(Pplane_Half r31 r32 y13) with _|⟨r33,r34,r35⟩
 rotate_left
 rcases h9:(Pplane_Clean r33 r34) with ⟨r36,r37⟩
 by_cases h10:(y23.length+1)*16≤140737488355328
 all_goals simp -implicitDefEqProofs only [*,-ih,flc_0_0,vplane_Half,vplane_Sum,vplane_Clean,EVA.down,ne_eq,seval]
 all_goals exact ih _ _ _ _ _ _ _ _ _ _ _ _ (by simp only [*,-ih,flc_0_0,vplane_Half,vplane_Sum,vplane_Clean,EVA.down,ne_eq,seval])
theorem lexpect_RebuildL9 (D:Nat)(hD:6≤D)(F:Nat)(K:AE→AS→Option Res):∀ (f:Nat) (v0:List (BitVec 64)) (v1 v2 v3 v4 v5 v6:Int) (v7:List Cpx) (s:AS),s.keepG 3 [0,2,4,5,6,7,24,25] [2,7]=some ⟨[(0,.vs v0.length .unk (enc c34 v0)),(2,.lp 2 0),(4,.i .i64 v1),(5,.i .i64 v2),(6,.fn (.func 14) [] []),(7,.lp 7 0),(24,.i .i64 v3),(25,.i .i64 v4)],[(2,[.i .i64 v5,.sl none 0 (.ex 0)]),(7,[.i .i64 v6,.sl (some (3,0)) v7.length .op])],[(3,⟨true,true,49,1,enc Cpx.cells v7⟩),(1,tab64)],4⟩→
 evLoop (evC (OV F D) 3 F a4L2) f s K=match Pexpect_RebuildL9 F f v0 v1 v2 v3 v4 v5 v6 v7 with|none=>none|some (.inl (y0,y1))=>K (.ex 0) ⟨[(2,.lp 2 0),(7,.lp 7 0)],[(2,[.i .i64 y0,.sl none 0 (.ex 0)]),(7,[.i .i64 y1,.sl none 0 (.ex 0)])],[(1,tab64)],3⟩|some (.inr (y0,y1,y2))=>K (.ex 0) ⟨[(2,.lp 2 0),(7,.lp 7 0)],[(2,[.i .i64 y0,.sl none 0 (.ex 0)]),(7,[.i .i64 y1,.sl (some (3,0)) y2.length .op])],[(3,⟨true,true,49,1,enc Cpx.cells y2⟩),(1,tab64)],4⟩:=by
 obtain ⟨D,rfl⟩:=dex hD
 intro f
 induction f with
 |zero=>intro v0 v1 v2 v3 v4 v5 v6 v7 s hs;simp only [evLoop,Pexpect_RebuildL9]
 |succ f ih=>
 intro v0 v1 v2 v3 v4 v5 v6 v7 s hs
 obtain ⟨k0,hk,hn,he,hr⟩:=@lk_all (OV F (D+6)) 3 F a4L2 f K
 rw [loop_succ,hk,a4L2,runC_cutg,hs]
 clear hs
 simp only [Pexpect_RebuildL9]
 clear hk
 by_cases h1:v4<v3
 simp -implicitDefEqProofs only [*,-ih,runC_loop,EVA.down,ne_eq,seval]
 rw [lexpect_RebuildL8 (D+6) (by omega) F  _ F v0 v1 v2 v4 v3 v4 v2 0 v5 v6 v7 _ (by simp only [*,-ih,EVA.down,ne_eq,seval];try rfl)]
 rcases h2:(Pexpect_RebuildL8 F F v0 v1 v2 v4 v3 v4 v2 0 v5 v6 v7) with _|⟨y1,y2,y3,y4,y5,y6,y7,y8⟩
 all_goals simp -implicitDefEqProofs only [*,-ih,EVA.down,ne_eq,seval]
 all_goals exact ih _ _ _ _ _ _ _ _ _ (by simp only [*,-ih,EVA.down,ne_eq,seval])
theorem lexpect_RebuildL10 (D:Nat)(hD:6≤D)(F:Nat)(K:AE→AS→Option Res):∀ (f:Nat) (v0:List (BitVec 64)) (v1 v2 v3 v4 v5 v6:Int) (s:AS),s.keepG 3 [0,2,4,5,6,7,24,25] [2,7]=some ⟨[(0,.vs v0.length .unk (enc c34 v0)),(2,.lp 2 0),(4,.i .i64 v1),(5,.i .i64 v2),(6,.fn (.func 14) [] []),(7,.lp 7 0),(24,.i .i64 v3),(25,.i .i64 v4)],[(2,[.i .i64 v5,.sl none 0 (.ex 0)]),(7,[.i .i64 v6,.sl none 0 (.ex 0)])],[(1,tab64)],3⟩→
 evLoop (evC (OV F D) 3 F a4L2) f s K=match Pexpect_RebuildL10 F f v0 v1 v2 v3 v4 v5 v6 with|none=>none|some (.inl (y0,y1))=>K (.ex 0) ⟨[(2,.lp 2 0),(7,.lp 7 0)],[(2,[.i .i64 y0,.sl none 0 (.ex 0)]),(7,[.i .i64 y1,.sl none 0 (.ex 0)])],[(1,tab64)],3⟩|some (.inr (y0,y1,y2))=>K (.ex 0) ⟨[(2,.lp 2 0),(7,.lp 7 0)],[(2,[.i .i64 y0,.sl none 0 (.ex 0)]),(7,[.i .i64 y1,.sl (some (3,0)) y2.length .op])],[(3,⟨true,true,49,1,enc Cpx.cells y2⟩),(1,tab64)],4⟩:=by
 obtain ⟨D,rfl⟩:=dex hD
 have nlexpect_RebuildL9:=lexpect_RebuildL9 (D+6) (by omega) F K
 intro f
 induction f with
 |zero=>intro v0 v1 v2 v3 v4 v5 v6 s hs;simp only [evLoop,Pexpect_RebuildL10]
 |succ f ih=>
 intro v0 v1 v2 v3 v4 v5 v6 s hs
 obtain ⟨k0,hk,hn,he,hr⟩:=@lk_all (OV F (D+6)) 3 F a4L2 f K
 rw [loop_succ,hk,a4L2,runC_cutg,hs]
 clear hs
 simp only [Pexpect_RebuildL10]
 clear hk
 by_cases h1:v4<v3
 simp -implicitDefEqProofs only [*,-ih,runC_loop,EVA.down,ne_eq,seval]
 rw [lexpect_RebuildL5 (D+6) (by omega) F  _ F v0 v1 v2 v4 v3 v4 v2 0 v5 v6 _ (by simp only [*,-ih,EVA.down,ne_eq,seval];try rfl)]
 rcases h2:(Pexpect_RebuildL5 F F v0 v1 v2 v4 v3 v4 v2 0 v5 v6) with _|(⟨y1,y2,y3,y4,y5,y6,y7⟩|⟨y8,y9,y10,y11,y12,y13,y14,y15⟩)
 all_goals simp -implicitDefEqProofs only [*,-ih,EVA.down,ne_eq,seval]
 all_goals first|exact ih _ _ _ _ _ _ _ _ (by simp only [*,-ih,EVA.down,ne_eq,seval])|exact nlexpect_RebuildL9 f _ _ _ _ _ _ _ _ _ (by simp only [*,-ih,EVA.down,ne_eq,seval])
theorem eexpect_Rebuild (D:Nat)(hD:6≤D)(F:Nat)(a0:List (BitVec 64))(q:Bool):evW 3 (OV F D) F a4 (some [.vs a0.length .unk (enc c34 a0)]) q G0 =
 match Pexpect_Rebuild F a0 with|none=>none|some (r0,r1,r2)=>some (.tup [.agg [.i .i64 r0,.vs r1.length .unk (enc Cpx.cells r1)],.i .i64 r2],none):=by
 obtain ⟨D,rfl⟩:=dex hD
 have cexpect_qubits0:=eexpect_qubits (D+5) (by omega) F
 rw [evW_some,G0]
 simp only [Pexpect_Rebuild]
 rcases h1:(Pexpect_qubits F a0) with _|r1
 rotate_left
 by_cases h2:r1<0
 rotate_left
 simp -implicitDefEqProofs only [*,a4,vexpect_qubits,runC_loop,EVA.down,ne_eq,seval]
 rw [lexpect_RebuildL10 (D+6) (by omega) F  _ F a0 r1 (IntKind.i64.wrap (1*2 ^ (min (r1).toNat 64))) (IntKind.i64.wrap (1*2 ^ (min (r1).toNat 64))) 0 0 (IntKind.i64.wrap (1*2 ^ (min (r1).toNat 64))) _ (by simp only [*,a4,vexpect_qubits,EVA.down,ne_eq,seval];try rfl)]
 rcases h3:(Pexpect_RebuildL10 F F a0 r1 (IntKind.i64.wrap (1*2 ^ (min (r1).toNat 64))) (IntKind.i64.wrap (1*2 ^ (min (r1).toNat 64))) 0 0 (IntKind.i64.wrap (1*2 ^ (min (r1).toNat 64)))) with _|(⟨y2,y3⟩|⟨y4,y5,y6⟩)
 all_goals simp -implicitDefEqProofs only [*,a4,vexpect_qubits,EVA.down,ne_eq,seval]
theorem vexpect_Rebuild {D F n:Nat}{args:List AV}{h:AHeap}:OV F (D+1) 4 args h n (n+1)=evW 3 (OV F D) F a4 (frzs (frz true 0 (bif AV.nors args then [] else h) 8) args) (AV.nors args) (hglb h 3):=evV_frozen rfl
theorem lref22_sideL0 (D:Nat)(hD:0≤D)(F:Nat)(v0:Int)(K:AE→AS→Option Res):∀ (f:Nat) (v1:Int) (s:AS),s.keep [0,3] []=some ⟨[(0,.i .i64 v0),(3,.i .i64 v1)],[],[(1,tab64)],3⟩→
 evLoop (evC (OV F D) 3 F a20L0) f s K=match Pref22_sideL0 v0 f v1 with|none=>none|some (.inl y0)=>K .ret ⟨[(2,.i .i64 y0)],[],[(1,tab64)],3⟩|some (.inr _)=>K (.ex 0) ⟨[],[],[(1,tab64)],3⟩:=by
 intro f
 induction f with
 |zero=>intro v1 s hs;simp only [evLoop,Pref22_sideL0]
 |succ f ih=>
 intro v1 s hs
 obtain ⟨k0,hk,hn,he,hr⟩:=@lk_all (OV F (D)) 3 F a20L0 f K
 rw [loop_succ,hk,a20L0,runC_cut,hs]
 clear hs
 simp only [Pref22_sideL0]
 clear hk
 by_cases h1:v1≤5
 by_cases h2:v0=(IntKind.i64.wrap (1*2 ^ (min (U (BitVec.ofInt 64 (IntKind.i64.wrap (2*v1)))).toNat 64)))
 replace h2:=eq_true h2
 all_goals simp -implicitDefEqProofs only [*,-ih,EVA.down,ne_eq,seval]
 all_goals exact ih _ _ (by simp only [*,-ih,EVA.down,ne_eq,seval])
theorem eref22_side (D:Nat)(hD:0≤D)(F:Nat)(a0:Int)(q:Bool):evW 3 (OV F D) F a20 (some [.i .i64 a0]) q G0 =
 match Pref22_side F a0 with|none=>none|some r0=>some (.i .i64 r0,none):=by
 rw [evW_some,G0]
 simp only [Pref22_side]
 simp -implicitDefEqProofs only [*,a20,runC_loop,EVA.down,ne_eq,seval]
 rw [lref22_sideL0 (D) (by omega) F a0 _ F 0 _ (by simp only [*,a20,EVA.down,ne_eq,seval];try rfl)]
 rcases h1:(Pref22_sideL0 a0 F 0) with _|(y1|_)
 all_goals simp -implicitDefEqProofs only [*,a20,EVA.down,ne_eq,seval]
theorem vref22_side {D F n:Nat}{args:List AV}{h:AHeap}:OV F (D+1) 20 args h n (n+1)=evW 3 (OV F D) F a20 (frzs (frz true 0 (bif AV.nors args then [] else h) 8) args) (AV.nors args) (hglb h 3):=evV_frozen rfl
theorem lref22_commonL0 (D:Nat)(hD:0≤D)(F:Nat)(K:AE→AS→Option Res):∀ (f:Nat) (v0 v1:Int) (s:AS),s.keep [5,6] []=some ⟨[(5,.i .i64 v0),(6,.i .i64 v1)],[],[(1,tab64)],3⟩→
 evLoop (evC (OV F D) 3 F a22L0) f s K=match Pref22_commonL0 f v0 v1 with|none=>none|some (y0)=>K (.ex 0) ⟨[(5,.i .i64 y0)],[],[(1,tab64)],3⟩:=by
 intro f
 induction f with
 |zero=>intro v0 v1 s hs;simp only [evLoop,Pref22_commonL0]
 |succ f ih=>
 intro v0 v1 s hs
 obtain ⟨k0,hk,hn,he,hr⟩:=@lk_all (OV F (D)) 3 F a22L0 f K
 rw [loop_succ,hk,a22L0,runC_cut,hs]
 clear hs
 simp only [Pref22_commonL0]
 clear hk
 by_cases h1:v1>0
 all_goals simp -implicitDefEqProofs only [*,-ih,EVA.down,ne_eq,seval]
 all_goals exact ih _ _ _ (by simp only [*,-ih,EVA.down,ne_eq,seval])
theorem eref22_common (D:Nat)(hD:0≤D)(F:Nat)(a0 a1:Int)(q:Bool):evW 3 (OV F D) F a22 (some [.i .i64 a0,.i .i64 a1]) q G0 =
 match Pref22_common F a0 a1 with|none=>none|some r0=>some (.i .i64 r0,none):=by
 rw [evW_some,G0]
 simp only [Pref22_common]
 simp -implicitDefEqProofs only [*,a22,runC_loop,EVA.down,ne_eq,seval]
 rw [lref22_commonL0 (D) (by omega) F  _ F 0 (bitop .and .i64 a0 a1) _ (by simp only [*,a22,EVA.down,ne_eq,seval];try rfl)]
 rcases h1:(Pref22_commonL0 F 0 (bitop .and .i64 a0 a1)) with _|y1
 all_goals simp -implicitDefEqProofs only [*,a22,EVA.down,ne_eq,seval]
theorem vref22_common {D F n:Nat}{args:List AV}{h:AHeap}:OV F (D+1) 22 args h n (n+1)=evW 3 (OV F D) F a22 (frzs (frz true 0 (bif AV.nors args then [] else h) 8) args) (AV.nors args) (hglb h 3):=evV_frozen rfl
theorem eref03_Turn (D:Nat)(hD:0≤D)(F:Nat)(a0_Re a0_Im:BitVec 64)(a1:Int)(q:Bool):evW 3 (OV F D) F a21 (some [.agg [.f .f64 (a0_Re).toNat,.f .f64 (a0_Im).toNat],.i .i64 a1]) q G0 =
 match Pref03_Turn a0_Re a0_Im a1 with|none=>none|some (r0,r1)=>some (.agg [.f .f64 (r0).toNat,.f .f64 (r1).toNat],none):=by
 have u2:AV.i .u64 2=.i .u64 (U 2#64):=id rfl
 have u3:AV.i .u64 3=.i .u64 (U 3#64):=id rfl
 have u4:AV.i .u64 4=.i .u64 (U 4#64):=id rfl
 have flf_0:AV.f .f64 0=.f .f64 (0#64).toNat:=id rfl
 have flx_0:∀ x,AV.c .f64 x 0=.c .f64 x (0#64).toNat:=fun _=>id rfl
 have fly_0:∀ x,AV.c .f64 0 x=.c .f64 (0#64).toNat x:=fun _=>id rfl
 rw [evW_some,G0]
 simp only [Pref03_Turn]
 by_cases h1:4#64=0#64
 replace h1:=eq_true h1
 rotate_left
 by_cases h2:((BitVec.ofInt 64 a1) % 4#64)=1#64
 replace h2:=eq_true h2
 rotate_left
 by_cases h3:((BitVec.ofInt 64 a1) % 4#64)=2#64
 replace h3:=eq_true h3
 rotate_left
 by_cases h4:((BitVec.ofInt 64 a1) % 4#64)=3#64
 replace h4:=eq_true h4
 all_goals simp -implicitDefEqProofs only [*,a21,flf_0,flx_0,fly_0,EVA.down,ne_eq,seval]
theorem vref03_Turn {D F n:Nat}{args:List AV}{h:AHeap}:OV F (D+1) 21 args h n (n+1)=evW 3 (OV F D) F a21 (frzs (frz true 0 (bif AV.nors args then [] else h) 8) args) (AV.nors args) (hglb h 3):=evV_frozen rfl
theorem lref22_RebuildL0 (D:Nat)(hD:1≤D)(F:Nat)(K:AE→AS→Option Res):∀ (f:Nat) (v0:List (BitVec 64)) (v1 v2 v3 v4 v5 v6 v7:Int) (v8:List S57) (s:AS),s.keepG 3 [0,2,4,5,6,7,8,9,10] [2,6]=some ⟨[(0,.vs v0.length .unk (enc c34 v0)),(2,.lp 2 0),(4,.i .i64 v1),(5,.i .i64 v2),(6,.lp 6 0),(7,.i .i64 v3),(8,.i .i64 v4),(9,.sl (some (3,0)) v8.length .op),(10,.i .i64 v5)],[(2,[.i .i64 v6,.sl none 0 (.ex 0)]),(6,[.i .i64 v7,.sl none 0 (.ex 0)])],[(3,⟨true,true,57,2,enc S57.cs v8⟩),(1,tab64)],4⟩→
 evLoop (evC (OV F D) 3 F a5L0) f s K=match Pref22_RebuildL0 F f v0 v1 v2 v3 v4 v5 v6 v7 v8 with|none=>none|some (.inl (y0,y1,y2,y3,y4,y5,y6))=>K (.ex 4) ⟨[(0,.vs y0.length .unk (enc c34 y0)),(2,.lp 2 0),(4,.i .i64 y1),(5,.i .i64 y2),(6,.lp 6 0),(7,.i .i64 y3),(8,.i .i64 y4),(9,.sl none 0 (.ex 0))],[(2,[.i .i64 y5,.sl none 0 (.ex 0)]),(6,[.i .i64 y6,.sl none 0 (.ex 0)])],[(1,tab64)],3⟩|some (.inr (y0,y1,y2,y3,y4,y5,y6,y7))=>K (.ex 4) ⟨[(0,.vs y0.length .unk (enc c34 y0)),(2,.lp 2 0),(4,.i .i64 y1),(5,.i .i64 y2),(6,.lp 6 0),(7,.i .i64 y3),(8,.i .i64 y4),(9,.sl (some (3,0)) y7.length .op)],[(2,[.i .i64 y5,.sl none 0 (.ex 0)]),(6,[.i .i64 y6,.sl none 0 (.ex 0)])],[(3,⟨true,true,57,2,enc S57.cs y7⟩),(1,tab64)],4⟩:=by
 obtain ⟨D,rfl⟩:=dex hD
 have flf_0:AV.f .f64 0=.f .f64 (0#64).toNat:=id rfl
 have flx_0:∀ x,AV.c .f64 x 0=.c .f64 x (0#64).toNat:=fun _=>id rfl
 have fly_0:∀ x,AV.c .f64 0 x=.c .f64 (0#64).toNat x:=fun _=>id rfl
 have cref03_Turn0:=eref03_Turn (D) (by omega) F
 have cref22_common0:=eref22_common (D) (by omega) F
 intro f
 induction f with
 |zero=>intro v0 v1 v2 v3 v4 v5 v6 v7 v8 s hs;simp only [evLoop,Pref22_RebuildL0]
 |succ f ih=>
 intro v0 v1 v2 v3 v4 v5 v6 v7 v8 s hs
 obtain ⟨k0,hk,hn,he,hr⟩:=@lk_all (OV F (D+1)) 3 F a5L0 f K
 rw [loop_succ,hk,a5L0,runC_cutg,hs]
 clear hs
 simp only [Pref22_RebuildL0]
 clear hk
 by_cases h1:v5<v2
 rcases ixo (@pk_c34 v0 (IntKind.i64.wrap ((bitop .xor .i64 v3 v4)+(IntKind.i64.wrap (v2*v5))))) with h2|⟨x1,h2⟩
 rotate_left
 rcases h3:(Pref22_common F (bitop .xor .i64 v3 v4) v5) with _|r2
 rotate_left
 rcases h4:(Pref22_common F v4 v5) with _|r3
 rotate_left
 rcases h5:(Pref03_Turn x1 0#64 (IntKind.i64.wrap (r2+(IntKind.i64.wrap (2*r3))))) with _|⟨r4,r5⟩
 rotate_left
 by_cases h6:(v8.length+1)*16≤140737488355328
 all_goals simp -implicitDefEqProofs only [*,-ih,flf_0,flx_0,fly_0,vref03_Turn,vref22_common,EVA.down,ne_eq,seval]
 all_goals exact ih _ _ _ _ _ _ _ _ _ _ (by simp only [*,-ih,flf_0,flx_0,fly_0,vref03_Turn,vref22_common,EVA.down,ne_eq,seval])
theorem lref22_RebuildL1 (D:Nat)(hD:1≤D)(F:Nat)(K:AE→AS→Option Res):∀ (f:Nat) (v0:List (BitVec 64)) (v1 v2 v3 v4 v5 v6 v7:Int) (s:AS),s.keepG 3 [0,2,4,5,6,7,8,9,10] [2,6]=some ⟨[(0,.vs v0.length .unk (enc c34 v0)),(2,.lp 2 0),(4,.i .i64 v1),(5,.i .i64 v2),(6,.lp 6 0),(7,.i .i64 v3),(8,.i .i64 v4),(9,.sl none 0 (.ex 0)),(10,.i .i64 v5)],[(2,[.i .i64 v6,.sl none 0 (.ex 0)]),(6,[.i .i64 v7,.sl none 0 (.ex 0)])],[(1,tab64)],3⟩→
 evLoop (evC (OV F D) 3 F a5L0) f s K=match Pref22_RebuildL1 F f v0 v1 v2 v3 v4 v5 v6 v7 with|none=>none|some (.inl (y0,y1,y2,y3,y4,y5,y6))=>K (.ex 4) ⟨[(0,.vs y0.length .unk (enc c34 y0)),(2,.lp 2 0),(4,.i .i64 y1),(5,.i .i64 y2),(6,.lp 6 0),(7,.i .i64 y3),(8,.i .i64 y4),(9,.sl none 0 (.ex 0))],[(2,[.i .i64 y5,.sl none 0 (.ex 0)]),(6,[.i .i64 y6,.sl none 0 (.ex 0)])],[(1,tab64)],3⟩|some (.inr (y0,y1,y2,y3,y4,y5,y6,y7))=>K (.ex 4) ⟨[(0,.vs y0.length .unk (enc c34 y0)),(2,.lp 2 0),(4,.i .i64 y1),(5,.i .i64 y2),(6,.lp 6 0),(7,.i .i64 y3),(8,.i .i64 y4),(9,.sl (some (3,0)) y7.length .op)],[(2,[.i .i64 y5,.sl none 0 (.ex 0)]),(6,[.i .i64 y6,.sl none 0 (.ex 0)])],[(3,⟨true,true,57,2,enc S57.cs y7⟩),(1,tab64)],4⟩:=by
 obtain ⟨D,rfl⟩:=dex hD
 have flf_0:AV.f .f64 0=.f .f64 (0#64).toNat:=id rfl
 have flx_0:∀ x,AV.c .f64 x 0=.c .f64 x (0#64).toNat:=fun _=>id rfl
 have fly_0:∀ x,AV.c .f64 0 x=.c .f64 (0#64).toNat x:=fun _=>id rfl
 have cref03_Turn0:=eref03_Turn (D) (by omega) F
 have cref22_common0:=eref22_common (D) (by omega) F
 have nlref22_RebuildL0:=lref22_RebuildL0 (D+1) (by omega) F K
 intro f
 induction f with
 |zero=>intro v0 v1 v2 v3 v4 v5 v6 v7 s hs;simp only [evLoop,Pref22_RebuildL1]
 |succ f ih=>
 intro v0 v1 v2 v3 v4 v5 v6 v7 s hs
 obtain ⟨k0,hk,hn,he,hr⟩:=@lk_all (OV F (D+1)) 3 F a5L0 f K
 rw [loop_succ,hk,a5L0,runC_cutg,hs]
 clear hs
 simp only [Pref22_RebuildL1]
 clear hk
 by_cases h1:v5<v2
 rcases ixo (@pk_c34 v0 (IntKind.i64.wrap ((bitop .xor .i64 v3 v4)+(IntKind.i64.wrap (v2*v5))))) with h2|⟨x1,h2⟩
 rotate_left
 rcases h3:(Pref22_common F (bitop .xor .i64 v3 v4) v5) with _|r2
 rotate_left
 rcases h4:(Pref22_common F v4 v5) with _|r3
 rotate_left
 rcases h5:(Pref03_Turn x1 0#64 (IntKind.i64.wrap (r2+(IntKind.i64.wrap (2*r3))))) with _|⟨r4,r5⟩
 all_goals simp -implicitDefEqProofs only [*,-ih,flf_0,flx_0,fly_0,vref03_Turn,vref22_common,EVA.down,ne_eq,seval]
 all_goals exact nlref22_RebuildL0 f _ _ _ _ _ _ _ _ _ _ (by simp only [*,-ih,flf_0,flx_0,fly_0,vref03_Turn,vref22_common,EVA.down,ne_eq,seval])
theorem eref03_Add (D:Nat)(hD:0≤D)(F:Nat)(a0_Re a0_Im a1_Re a1_Im:BitVec 64)(q:Bool):evW 3 (OV F D) F a43 (some [.agg [.f .f64 (a0_Re).toNat,.f .f64 (a0_Im).toNat],.agg [.f .f64 (a1_Re).toNat,.f .f64 (a1_Im).toNat]]) q G0 =
 match Pref03_Add a0_Re a0_Im a1_Re a1_Im with|(r0,r1)=>some (.agg [.f .f64 (r0).toNat,.f .f64 (r1).toNat],none):=by
 have flf_0:AV.f .f64 0=.f .f64 (0#64).toNat:=id rfl
 have flx_0:∀ x,AV.c .f64 x 0=.c .f64 x (0#64).toNat:=fun _=>id rfl
 have fly_0:∀ x,AV.c .f64 0 x=.c .f64 (0#64).toNat x:=fun _=>id rfl
 rw [evW_some,G0]
 skip
 all_goals simp -implicitDefEqProofs only [*,a43,Pref03_Add,flf_0,flx_0,fly_0,EVA.down,ne_eq,seval]
theorem vref03_Add {D F n:Nat}{args:List AV}{h:AHeap}:OV F (D+1) 43 args h n (n+1)=evW 3 (OV F D) F a43 (frzs (frz true 0 (bif AV.nors args then [] else h) 8) args) (AV.nors args) (hglb h 3):=evV_frozen rfl
theorem lref03_SumL0 (D:Nat)(hD:1≤D)(F:Nat)(v0:List S57)(v2 v3:BitVec 64)(K:AE→AS→Option Res):∀ (f:Nat) (v1:Int) (v4 v5:BitVec 64) (s:AS),s.keep [0,2,3,4] [2,3]=some ⟨[(0,.vs v0.length .unk (enc S57.cs v0)),(2,.lp 2 0),(3,.lp 3 0),(4,.i .i64 v1)],[(2,[.f .f64 (v2).toNat,.f .f64 (v3).toNat]),(3,[.f .f64 (v4).toNat,.f .f64 (v5).toNat])],[(1,tab64)],3⟩→
 evLoop (evC (OV F D) 3 F a24L0) f s K=match Pref03_SumL0 v0 v2 v3 f v1 v4 v5 with|none=>none|some (y0,y1)=>K (.ex 0) ⟨[(2,.lp 2 0),(3,.lp 3 0)],[(2,[.f .f64 (v2).toNat,.f .f64 (v3).toNat]),(3,[.f .f64 (y0).toNat,.f .f64 (y1).toNat])],[(1,tab64)],3⟩:=by
 obtain ⟨D,rfl⟩:=dex hD
 have cref03_Add0:=eref03_Add (D) (by omega) F
 intro f
 induction f with
 |zero=>intro v1 v4 v5 s hs;simp only [evLoop,Pref03_SumL0]
 |succ f ih=>
 intro v1 v4 v5 s hs
 obtain ⟨k0,hk,hn,he,hr⟩:=@lk_all (OV F (D+1)) 3 F a24L0 f K
 rw [loop_succ,hk,a24L0,runC_cut,hs]
 clear hs
 simp only [Pref03_SumL0]
 clear hk
 by_cases h1:v1<(v0.length:Int)
 rcases ixo (@pk_S57_cs v0 v1) with h2|⟨x1,h2⟩
 rotate_left
 rcases h3:(Pref03_Add v4 v5 x1.f_Re x1.f_Im) with ⟨r2,r3⟩
 all_goals simp -implicitDefEqProofs only [*,-ih,vref03_Add,EVA.down,ne_eq,seval]
 all_goals exact ih _ _ _ _ (by simp only [*,-ih,vref03_Add,EVA.down,ne_eq,seval])
theorem eref03_Sum (D:Nat)(hD:1≤D)(F:Nat)(a0:List S57)(q:Bool):evW 3 (OV F D) F a24 (some [.vs a0.length .unk (enc S57.cs a0)]) q G0 =
 match Pref03_Sum F a0 with|none=>none|some (r0,r1)=>some (.agg [.f .f64 (r0).toNat,.f .f64 (r1).toNat],none):=by
 obtain ⟨D,rfl⟩:=dex hD
 have flf_0:AV.f .f64 0=.f .f64 (0#64).toNat:=id rfl
 have flx_0:∀ x,AV.c .f64 x 0=.c .f64 x (0#64).toNat:=fun _=>id rfl
 have fly_0:∀ x,AV.c .f64 0 x=.c .f64 (0#64).toNat x:=fun _=>id rfl
 rw [evW_some,G0]
 simp only [Pref03_Sum]
 by_cases h1:(a0.length:Int)=0
 replace h1:=eq_true h1
 rotate_left
 rcases ixo (@pk_S57_cs a0 (0)) with h2|⟨x1,h2⟩
 rotate_left
 try simp only [Int.reduceToNat,Nat.reduceMul,Nat.reduceAdd,Nat.zero_mul,Nat.zero_add,List.drop_zero] at h2
 simp -implicitDefEqProofs only [*,a24,flf_0,flx_0,fly_0,runC_loop,EVA.down,ne_eq,seval]
 rw [lref03_SumL0 (D+1) (by omega) F a0 0#64 0#64 _ F 1 x1.f_Re x1.f_Im _ (by simp only [*,a24,flf_0,flx_0,fly_0,EVA.down,ne_eq,seval];try rfl)]
 rcases h3:(Pref03_SumL0 a0 0#64 0#64 F 1 x1.f_Re x1.f_Im) with _|⟨y2,y3⟩
 all_goals simp -implicitDefEqProofs only [*,a24,flf_0,flx_0,fly_0,EVA.down,ne_eq,seval]
theorem vref03_Sum {D F n:Nat}{args:List AV}{h:AHeap}:OV F (D+1) 24 args h n (n+1)=evW 3 (OV F D) F a24 (frzs (frz true 0 (bif AV.nors args then [] else h) 8) args) (AV.nors args) (hglb h 3):=evV_frozen rfl
theorem eref03_Half (D:Nat)(hD:3≤D)(F:Nat)(a0_Re a0_Im:BitVec 64)(a1:Int)(q:Bool):evW 3 (OV F D) F a23 (some [.agg [.f .f64 (a0_Re).toNat,.f .f64 (a0_Im).toNat],.i .i64 a1]) q G0 =
 match Pref03_Half a0_Re a0_Im a1 with|none=>none|some (r0,r1,r2)=>some (.tup [.agg [.f .f64 (r0).toNat,.f .f64 (r1).toNat],.i .i64 r2],none):=by
 obtain ⟨D,rfl⟩:=dex hD
 have flf_0:AV.f .f64 0=.f .f64 (0#64).toNat:=id rfl
 have flx_0:∀ x,AV.c .f64 x 0=.c .f64 x (0#64).toNat:=fun _=>id rfl
 have fly_0:∀ x,AV.c .f64 0 x=.c .f64 (0#64).toNat x:=fun _=>id rfl
 have cmath_Ldexp0:=emath_Ldexp (D+2) (by omega) F
 rw [evW_some,G0]
 simp only [Pref03_Half]
 by_cases h1:a1<0
 rotate_left
 by_cases h2:a1>2000
 rotate_left
 rcases h3:(Pmath_Ldexp a0_Re (IntKind.i64.wrap (0-a1))) with _|r1
 rotate_left
 rcases h4:(Pmath_Ldexp a0_Im (IntKind.i64.wrap (0-a1))) with _|r2
 all_goals simp -implicitDefEqProofs only [*,a23,flf_0,flx_0,fly_0,vmath_Ldexp,EVA.down,ne_eq,seval]
theorem vref03_Half {D F n:Nat}{args:List AV}{h:AHeap}:OV F (D+1) 23 args h n (n+1)=evW 3 (OV F D) F a23 (frzs (frz true 0 (bif AV.nors args then [] else h) 8) args) (AV.nors args) (hglb h 3):=evV_frozen rfl
theorem eref03_Clean (D:Nat)(hD:0≤D)(F:Nat)(a0_Re a0_Im:BitVec 64)(q:Bool):evW 3 (OV F D) F a25 (some [.agg [.f .f64 (a0_Re).toNat,.f .f64 (a0_Im).toNat]]) q G0 =
 match Pref03_Clean a0_Re a0_Im with|(r0,r1)=>some (.agg [.f .f64 (r0).toNat,.f .f64 (r1).toNat],none):=by
 have flf_0:AV.f .f64 0=.f .f64 (0#64).toNat:=id rfl
 have flx_0:∀ x,AV.c .f64 x 0=.c .f64 x (0#64).toNat:=fun _=>id rfl
 have fly_0:∀ x,AV.c .f64 0 x=.c .f64 (0#64).toNat x:=fun _=>id rfl
 rw [evW_some,G0]
 skip
 all_goals simp -implicitDefEqProofs only [*,a25,Pref03_Clean,flf_0,flx_0,fly_0,EVA.down,ne_eq,seval]
theorem vref03_Clean {D F n:Nat}{args:List AV}{h:AHeap}:OV F (D+1) 25 args h n (n+1)=evW 3 (OV F D) F a25 (frzs (frz true 0 (bif AV.nors args then [] else h) 8) args) (AV.nors args) (hglb h 3):=evV_frozen rfl
theorem lref22_RebuildL2 (D:Nat)(hD:1≤D)(F:Nat)(K:AE→AS→Option Res):∀ (f:Nat) (v0:List (BitVec 64)) (v1 v2 v3 v4 v5 v6 v7:Int) (v8 v9:List S57) (s:AS),s.keepG 3 [0,2,4,5,6,7,8,9,10] [2,6]=some ⟨[(0,.vs v0.length .unk (enc c34 v0)),(2,.lp 2 0),(4,.i .i64 v1),(5,.i .i64 v2),(6,.lp 6 0),(7,.i .i64 v3),(8,.i .i64 v4),(9,.sl (some (3,0)) v8.length .op),(10,.i .i64 v5)],[(2,[.i .i64 v6,.sl none 0 (.ex 0)]),(6,[.i .i64 v7,.sl (some (4,0)) v9.length .op])],[(3,⟨true,true,57,2,enc S57.cs v8⟩),(4,⟨true,true,57,2,enc S57.cs v9⟩),(1,tab64)],5⟩→
 evLoop (evC (OV F D) 3 F a5L0) f s K=match Pref22_RebuildL2 F f v0 v1 v2 v3 v4 v5 v6 v7 v8 v9 with|none=>none|some (.inl (y0,y1,y2,y3,y4,y5,y6,y7))=>K (.ex 4) ⟨[(0,.vs y0.length .unk (enc c34 y0)),(2,.lp 2 0),(4,.i .i64 y1),(5,.i .i64 y2),(6,.lp 6 0),(7,.i .i64 y3),(8,.i .i64 y4),(9,.sl none 0 (.ex 0))],[(2,[.i .i64 y5,.sl none 0 (.ex 0)]),(6,[.i .i64 y6,.sl (some (3,0)) y7.length .op])],[(3,⟨true,true,57,2,enc S57.cs y7⟩),(1,tab64)],4⟩|some (.inr (y0,y1,y2,y3,y4,y5,y6,y7,y8))=>K (.ex 4) ⟨[(0,.vs y0.length .unk (enc c34 y0)),(2,.lp 2 0),(4,.i .i64 y1),(5,.i .i64 y2),(6,.lp 6 0),(7,.i .i64 y3),(8,.i .i64 y4),(9,.sl (some (3,0)) y7.length .op)],[(2,[.i .i64 y5,.sl none 0 (.ex 0)]),(6,[.i .i64 y6,.sl (some (4,0)) y8.length .op])],[(3,⟨true,true,57,2,enc S57.cs y7⟩),(4,⟨true,true,57,2,enc S57.cs y8⟩),(1,tab64)],5⟩:=by
 obtain ⟨D,rfl⟩:=dex hD
 have flf_0:AV.f .f64 0=.f .f64 (0#64).toNat:=id rfl
 have flx_0:∀ x,AV.c .f64 x 0=.c .f64 x (0#64).toNat:=fun _=>id rfl
 have fly_0:∀ x,AV.c .f64 0 x=.c .f64 (0#64).toNat x:=fun _=>id rfl
 have cref03_Turn0:=eref03_Turn (D) (by omega) F
 have cref22_common0:=eref22_common (D) (by omega) F
 intro f
 induction f with
 |zero=>intro v0 v1 v2 v3 v4 v5 v6 v7 v8 v9 s hs;simp only [evLoop,Pref22_RebuildL2]
 |succ f ih=>
 intro v0 v1 v2 v3 v4 v5 v6 v7 v8 v9 s hs
 obtain ⟨k0,hk,hn,he,hr⟩:=@lk_all (OV F (D+1)) 3 F a5L0 f K
 rw [loop_succ,hk,a5L0,runC_cutg,hs]
 clear hs
 simp only [Pref22_RebuildL2]
 clear hk
 by_cases h1:v5<v2
 rcases ixo (@pk_c34 v0 (IntKind.i64.wrap ((bitop .xor .i64 v3 v4)+(IntKind.i64.wrap (v2*v5))))) with h2|⟨x1,h2⟩
 rotate_left
 rcases h3:(Pref22_common F (bitop .xor .i64 v3 v4) v5) with _|r2
 rotate_left
 rcases h4:(Pref22_common F v4 v5) with _|r3
 rotate_left
 rcases h5:(Pref03_Turn x1 0#64 (IntKind.i64.wrap (r2+(IntKind.i64.wrap (2*r3))))) with _|⟨r4,r5⟩
 rotate_left
 by_cases h6:(v8.length+1)*16≤140737488355328
 all_goals simp -implicitDefEqProofs only [*,-ih,flf_0,flx_0,fly_0,vref03_Turn,vref22_common,EVA.down,ne_eq,seval]
 all_goals exact ih _ _ _ _ _ _ _ _ _ _ _ (by simp only [*,-ih,flf_0,flx_0,fly_0,vref03_Turn,vref22_common,EVA.down,ne_eq,seval])
theorem lref22_RebuildL3 (D:Nat)(hD:1≤D)(F:Nat)(K:AE→AS→Option Res):∀ (f:Nat) (v0:List (BitVec 64)) (v1 v2 v3 v4 v5 v6 v7:Int) (v8:List S57) (s:AS),s.keepG 3 [0,2,4,5,6,7,8,9,10] [2,6]=some ⟨[(0,.vs v0.length .unk (enc c34 v0)),(2,.lp 2 0),(4,.i .i64 v1),(5,.i .i64 v2),(6,.lp 6 0),(7,.i .i64 v3),(8,.i .i64 v4),(9,.sl none 0 (.ex 0)),(10,.i .i64 v5)],[(2,[.i .i64 v6,.sl none 0 (.ex 0)]),(6,[.i .i64 v7,.sl (some (3,0)) v8.length .op])],[(3,⟨true,true,57,2,enc S57.cs v8⟩),(1,tab64)],4⟩→
 evLoop (evC (OV F D) 3 F a5L0) f s K=match Pref22_RebuildL3 F f v0 v1 v2 v3 v4 v5 v6 v7 v8 with|none=>none|some (.inl (y0,y1,y2,y3,y4,y5,y6,y7))=>K (.ex 4) ⟨[(0,.vs y0.length .unk (enc c34 y0)),(2,.lp 2 0),(4,.i .i64 y1),(5,.i .i64 y2),(6,.lp 6 0),(7,.i .i64 y3),(8,.i .i64 y4),(9,.sl none 0 (.ex 0))],[(2,[.i .i64 y5,.sl none 0 (.ex 0)]),(6,[.i .i64 y6,.sl (some (3,0)) y7.length .op])],[(3,⟨true,true,57,2,enc S57.cs y7⟩),(1,tab64)],4⟩|some (.inr (y0,y1,y2,y3,y4,y5,y6,y7,y8))=>K (.ex 4) ⟨[(0,.vs y0.length .unk (enc c34 y0)),(2,.lp 2 0),(4,.i .i64 y1),(5,.i .i64 y2),(6,.lp 6 0),(7,.i .i64 y3),(8,.i .i64 y4),(9,.sl (some (3,0)) y7.length .op)],[(2,[.i .i64 y5,.sl none 0 (.ex 0)]),(6,[.i .i64 y6,.sl (some (4,0)) y8.length .op])],[(3,⟨true,true,57,2,enc S57.cs y7⟩),(4,⟨true,true,57,2,enc S57.cs y8⟩),(1,tab64)],5⟩:=by
 obtain ⟨D,rfl⟩:=dex hD
 have flf_0:AV.f .f64 0=.f .f64 (0#64).toNat:=id rfl
 have flx_0:∀ x,AV.c .f64 x 0=.c .f64 x (0#64).toNat:=fun _=>id rfl
 have fly_0:∀ x,AV.c .f64 0 x=.c .f64 (0#64).toNat x:=fun _=>id rfl
 have cref03_Turn0:=eref03_Turn (D) (by omega) F
 have cref22_common0:=eref22_common (D) (by omega) F
 have nlref22_RebuildL2:=lref22_RebuildL2 (D+1) (by omega) F K
 intro f
 induction f with
 |zero=>intro v0 v1 v2 v3 v4 v5 v6 v7 v8 s hs;simp only [evLoop,Pref22_RebuildL3]
 |succ f ih=>
 intro v0 v1 v2 v3 v4 v5 v6 v7 v8 s hs
 obtain ⟨k0,hk,hn,he,hr⟩:=@lk_all (OV F (D+1)) 3 F a5L0 f K
 rw [loop_succ,hk,a5L0,runC_cutg,hs]
 clear hs
 simp only [Pref22_RebuildL3]
 clear hk
 by_cases h1:v5<v2
 rcases ixo (@pk_c34 v0 (IntKind.i64.wrap ((bitop .xor .i64 v3 v4)+(IntKind.i64.wrap (v2*v5))))) with h2|⟨x1,h2⟩
 rotate_left
 rcases h3:(Pref22_common F (bitop .xor .i64 v3 v4) v5) with _|r2
 rotate_left
 rcases h4:(Pref22_common F v4 v5) with _|r3
 rotate_left
 rcases h5:(Pref03_Turn x1 0#64 (IntKind.i64.wrap (r2+(IntKind.i64.wrap (2*r3))))) with _|⟨r4,r5⟩
 all_goals simp -implicitDefEqProofs only [*,-ih,flf_0,flx_0,fly_0,vref03_Turn,vref22_common,EVA.down,ne_eq,seval]
 all_goals exact nlref22_RebuildL2 f _ _ _ _ _ _ _ _ _ _ _ (by simp only [*,-ih,flf_0,flx_0,fly_0,vref03_Turn,vref22_common,EVA.down,ne_eq,seval])
theorem lref22_RebuildL4 (D:Nat)(hD:4≤D)(F:Nat)(K:AE→AS→Option Res):∀ (f:Nat) (v0:List (BitVec 64)) (v1 v2 v3 v4 v5 v6:Int) (v7:List S57) (s:AS),s.keepG 3 [0,2,4,5,6,7,8] [2,6]=some ⟨[(0,.vs v0.length .unk (enc c34 v0)),(2,.lp 2 0),(4,.i .i64 v1),(5,.i .i64 v2),(6,.lp 6 0),(7,.i .i64 v3),(8,.i .i64 v4)],[(2,[.i .i64 v5,.sl none 0 (.ex 0)]),(6,[.i .i64 v6,.sl (some (3,0)) v7.length .op])],[(3,⟨true,true,57,2,enc S57.cs v7⟩),(1,tab64)],4⟩→
 evLoop (evC (OV F D) 3 F a5L1) f s K=match Pref22_RebuildL4 F f v0 v1 v2 v3 v4 v5 v6 v7 with|none=>none|some (.inl (y0,y1,y2,y3,y4,y5))=>K (.ex 2) ⟨[(0,.vs y0.length .unk (enc c34 y0)),(2,.lp 2 0),(4,.i .i64 y1),(5,.i .i64 y2),(6,.lp 6 0),(7,.i .i64 y3)],[(2,[.i .i64 y4,.sl none 0 (.ex 0)]),(6,[.i .i64 y5,.sl none 0 (.ex 0)])],[(1,tab64)],3⟩|some (.inr (y0,y1,y2,y3,y4,y5,y6))=>K (.ex 2) ⟨[(0,.vs y0.length .unk (enc c34 y0)),(2,.lp 2 0),(4,.i .i64 y1),(5,.i .i64 y2),(6,.lp 6 0),(7,.i .i64 y3)],[(2,[.i .i64 y4,.sl none 0 (.ex 0)]),(6,[.i .i64 y5,.sl (some (3,0)) y6.length .op])],[(3,⟨true,true,57,2,enc S57.cs y6⟩),(1,tab64)],4⟩:=by
 obtain ⟨D,rfl⟩:=dex hD
 have flf_0:AV.f .f64 0=.f .f64 (0#64).toNat:=id rfl
 have flx_0:∀ x,AV.c .f64 x 0=.c .f64 x (0#64).toNat:=fun _=>id rfl
 have fly_0:∀ x,AV.c .f64 0 x=.c .f64 (0#64).toNat x:=fun _=>id rfl
 have cref03_Half0:=eref03_Half (D+3) (by omega) F
 have cref03_Sum0:=eref03_Sum (D+3) (by omega) F
 have cref03_Clean0:=eref03_Clean (D+3) (by omega) F
 have cref03_Sum0_0:=eref03_Sum (D+3) (by omega) F []
 simp only [List.length_nil,enc_nil] at cref03_Sum0_0
 intro f
 induction f with
 |zero=>intro v0 v1 v2 v3 v4 v5 v6 v7 s hs;simp only [evLoop,Pref22_RebuildL4]
 |succ f ih=>
 intro v0 v1 v2 v3 v4 v5 v6 v7 s hs
 obtain ⟨k0,hk,hn,he,hr⟩:=@lk_all (OV F (D+4)) 3 F a5L1 f K
 rw [loop_succ,hk,a5L1,runC_cutg,hs]
 clear hs
 simp only [Pref22_RebuildL4]
 clear hk
 by_cases h1:v4<v2
 simp -implicitDefEqProofs only [*,-ih,flf_0,flx_0,fly_0,vref03_Half,vref03_Sum,vref03_Clean,runC_loop,EVA.down,ne_eq,seval]
 rw [lref22_RebuildL3 (D+4) (by omega) F  _ F v0 v1 v2 v3 v4 0 v5 v6 v7 _ (by simp only [*,-ih,flf_0,flx_0,fly_0,vref03_Half,vref03_Sum,vref03_Clean,EVA.down,ne_eq,seval];try rfl)]
 rcases h2:(Pref22_RebuildL3 F F v0 v1 v2 v3 v4 0 v5 v6 v7) with _|(⟨y1,y2,y3,y4,y5,y6,y7,y8⟩|⟨y9,y10,y11,y12,y13,y14,y15,y16,y17⟩)
 rotate_left
 rcases h3:(Pref03_Sum F ([])) with _|⟨r18,r19⟩
 rotate_left
 rcases h4:(Pref03_Half r18 r19 y2) with _|⟨r20,r21,r22⟩
 rotate_left
 rcases h5:(Pref03_Clean r20 r21) with ⟨r23,r24⟩
 by_cases h6:(y8.length+1)*16≤140737488355328
 rotate_left
 rotate_left
 rcases h7:(Pref03_Sum F y16) with _|⟨r25,r26⟩
 rotate_left
 rcases h8:(Pref03_Half r25 r26 y10) with _|⟨r27,r28,r29⟩
 rotate_left
 rcases h9:(Pref03_Clean r27 r28) with ⟨r30,r31⟩
 by_cases h10:(y17.length+1)*16≤140737488355328
 all_goals simp -implicitDefEqProofs only [*,-ih,flf_0,flx_0,fly_0,vref03_Half,vref03_Sum,vref03_Clean,EVA.down,ne_eq,seval]
 all_goals exact ih _ _ _ _ _ _ _ _ _ (by simp only [*,-ih,flf_0,flx_0,fly_0,vref03_Half,vref03_Sum,vref03_Clean,EVA.down,ne_eq,seval])
theorem lref22_RebuildL5 (D:Nat)(hD:4≤D)(F:Nat)(K:AE→AS→Option Res):∀ (f:Nat) (v0:List (BitVec 64)) (v1 v2 v3 v4 v5 v6:Int) (s:AS),s.keepG 3 [0,2,4,5,6,7,8] [2,6]=some ⟨[(0,.vs v0.length .unk (enc c34 v0)),(2,.lp 2 0),(4,.i .i64 v1),(5,.i .i64 v2),(6,.lp 6 0),(7,.i .i64 v3),(8,.i .i64 v4)],[(2,[.i .i64 v5,.sl none 0 (.ex 0)]),(6,[.i .i64 v6,.sl none 0 (.ex 0)])],[(1,tab64)],3⟩→
 evLoop (evC (OV F D) 3 F a5L1) f s K=match Pref22_RebuildL5 F f v0 v1 v2 v3 v4 v5 v6 with|none=>none|some (.inl (y0,y1,y2,y3,y4,y5))=>K (.ex 2) ⟨[(0,.vs y0.length .unk (enc c34 y0)),(2,.lp 2 0),(4,.i .i64 y1),(5,.i .i64 y2),(6,.lp 6 0),(7,.i .i64 y3)],[(2,[.i .i64 y4,.sl none 0 (.ex 0)]),(6,[.i .i64 y5,.sl none 0 (.ex 0)])],[(1,tab64)],3⟩|some (.inr (y0,y1,y2,y3,y4,y5,y6))=>K (.ex 2) ⟨[(0,.vs y0.length .unk (enc c34 y0)),(2,.lp 2 0),(4,.i .i64 y1),(5,.i .i64 y2),(6,.lp 6 0),(7,.i .i64 y3)],[(2,[.i .i64 y4,.sl none 0 (.ex 0)]),(6,[.i .i64 y5,.sl (some (3,0)) y6.length .op])],[(3,⟨true,true,57,2,enc S57.cs y6⟩),(1,tab64)],4⟩:=by
 obtain ⟨D,rfl⟩:=dex hD
 have flf_0:AV.f .f64 0=.f .f64 (0#64).toNat:=id rfl
 have flx_0:∀ x,AV.c .f64 x 0=.c .f64 x (0#64).toNat:=fun _=>id rfl
 have fly_0:∀ x,AV.c .f64 0 x=.c .f64 (0#64).toNat x:=fun _=>id rfl
 have cref03_Half0:=eref03_Half (D+3) (by omega) F
 have cref03_Sum0:=eref03_Sum (D+3) (by omega) F
 have cref03_Clean0:=eref03_Clean (D+3) (by omega) F
 have cref03_Sum0_0:=eref03_Sum (D+3) (by omega) F []
 simp only [List.length_nil,enc_nil] at cref03_Sum0_0
 have nlref22_RebuildL4:=lref22_RebuildL4 (D+4) (by omega) F K
 intro f
 induction f with
 |zero=>intro v0 v1 v2 v3 v4 v5 v6 s hs;simp only [evLoop,Pref22_RebuildL5]
 |succ f ih=>
 intro v0 v1 v2 v3 v4 v5 v6 s hs
 obtain ⟨k0,hk,hn,he,hr⟩:=@lk_all (OV F (D+4)) 3 F a5L1 f K
 rw [loop_succ,hk,a5L1,runC_cutg,hs]
 clear hs
 simp only [Pref22_RebuildL5]
 clear hk
 by_cases h1:v4<v2
 simp -implicitDefEqProofs only [*,-ih,flf_0,flx_0,fly_0,vref03_Half,vref03_Sum,vref03_Clean,runC_loop,EVA.down,ne_eq,seval]
 rw [lref22_RebuildL1 (D+4) (by omega) F  _ F v0 v1 v2 v3 v4 0 v5 v6 _ (by simp only [*,-ih,flf_0,flx_0,fly_0,vref03_Half,vref03_Sum,vref03_Clean,EVA.down,ne_eq,seval];try rfl)]
 rcases h2:(Pref22_RebuildL1 F F v0 v1 v2 v3 v4 0 v5 v6) with _|(⟨y1,y2,y3,y4,y5,y6,y7⟩|⟨y8,y9,y10,y11,y12,y13,y14,y15⟩)
 rotate_left
 rcases h3:(Pref03_Sum F ([])) with _|⟨r16,r17⟩
 rotate_left
 rcases h4:(Pref03_Half r16 r17 y2) with _|⟨r18,r19,r20⟩
 rotate_left
 rcases h5:(Pref03_Clean r18 r19) with ⟨r21,r22⟩
 rotate_left
 rcases h6:(Pref03_Sum F y15) with _|⟨r23,r24⟩
 rotate_left
 rcases h7:(Pref03_Half r23 r24 y9) with _|⟨r25,r26,r27⟩
 rotate_left
 rcases h8:(Pref03_Clean r25 r26) with ⟨r28,r29⟩
 all_goals simp -implicitDefEqProofs only [*,-ih,flf_0,flx_0,fly_0,vref03_Half,vref03_Sum,vref03_Clean,EVA.down,ne_eq,seval]
 all_goals exact nlref22_RebuildL4 f _ _ _ _ _ _ _ _ _ (by simp only [*,-ih,flf_0,flx_0,fly_0,vref03_Half,vref03_Sum,vref03_Clean,EVA.down,ne_eq,seval])
theorem lref22_RebuildL6 (D:Nat)(hD:1≤D)(F:Nat)(K:AE→AS→Option Res):∀ (f:Nat) (v0:List (BitVec 64)) (v1 v2 v3 v4 v5 v6 v7:Int) (v8 v9:List S57) (s:AS),s.keepG 3 [0,2,4,5,6,7,8,9,10] [2,6]=some ⟨[(0,.vs v0.length .unk (enc c34 v0)),(2,.lp 2 0),(4,.i .i64 v1),(5,.i .i64 v2),(6,.lp 6 0),(7,.i .i64 v3),(8,.i .i64 v4),(9,.sl (some (3,0)) v8.length .op),(10,.i .i64 v5)],[(2,[.i .i64 v6,.sl none 0 (.ex 0)]),(6,[.i .i64 v7,.sl (some (4,0)) v9.length .op])],[(3,⟨true,true,57,2,enc S57.cs v8⟩),(4,⟨true,true,57,2,enc S57.cs v9⟩),(1,tab64)],5⟩→
 evLoop (evC (OV F D) 3 F a5L0) f s K=match Pref22_RebuildL6 F f v0 v1 v2 v3 v4 v5 v6 v7 v8 v9 with|none=>none|some (.inl (y0,y1,y2,y3,y4,y5,y6,y7))=>K (.ex 4) ⟨[(0,.vs y0.length .unk (enc c34 y0)),(2,.lp 2 0),(4,.i .i64 y1),(5,.i .i64 y2),(6,.lp 6 0),(7,.i .i64 y3),(8,.i .i64 y4),(9,.sl none 0 (.ex 0))],[(2,[.i .i64 y5,.sl none 0 (.ex 0)]),(6,[.i .i64 y6,.sl (some (3,0)) y7.length .op])],[(3,⟨true,true,57,2,enc S57.cs y7⟩),(1,tab64)],4⟩|some (.inr (y0,y1,y2,y3,y4,y5,y6,y7,y8))=>K (.ex 4) ⟨[(0,.vs y0.length .unk (enc c34 y0)),(2,.lp 2 0),(4,.i .i64 y1),(5,.i .i64 y2),(6,.lp 6 0),(7,.i .i64 y3),(8,.i .i64 y4),(9,.sl (some (3,0)) y7.length .op)],[(2,[.i .i64 y5,.sl none 0 (.ex 0)]),(6,[.i .i64 y6,.sl (some (4,0)) y8.length .op])],[(3,⟨true,true,57,2,enc S57.cs y7⟩),(4,⟨true,true,57,2,enc S57.cs y8⟩),(1,tab64)],5⟩:=by
 obtain ⟨D,rfl⟩:=dex hD
 have flf_0:AV.f .f64 0=.f .f64 (0#64).toNat:=id rfl
 have flx_0:∀ x,AV.c .f64 x 0=.c .f64 x (0#64).toNat:=fun _=>id rfl
 have fly_0:∀ x,AV.c .f64 0 x=.c .f64 (0#64).toNat x:=fun _=>id rfl
 have cref03_Turn0:=eref03_Turn (D) (by omega) F
 have cref22_common0:=eref22_common (D) (by omega) F
 intro f
 induction f with
 |zero=>intro v0 v1 v2 v3 v4 v5 v6 v7 v8 v9 s hs;simp only [evLoop,Pref22_RebuildL6]
 |succ f ih=>
 intro v0 v1 v2 v3 v4 v5 v6 v7 v8 v9 s hs
 obtain ⟨k0,hk,hn,he,hr⟩:=@lk_all (OV F (D+1)) 3 F a5L0 f K
 rw [loop_succ,hk,a5L0,runC_cutg,hs]
 clear hs
 simp only [Pref22_RebuildL6]
 clear hk
 by_cases h1:v5<v2
 rcases ixo (@pk_c34 v0 (IntKind.i64.wrap ((bitop .xor .i64 v3 v4)+(IntKind.i64.wrap (v2*v5))))) with h2|⟨x1,h2⟩
 rotate_left
 rcases h3:(Pref22_common F (bitop .xor .i64 v3 v4) v5) with _|r2
 rotate_left
 rcases h4:(Pref22_common F v4 v5) with _|r3
 rotate_left
 rcases h5:(Pref03_Turn x1 0#64 (IntKind.i64.wrap (r2+(IntKind.i64.wrap (2*r3))))) with _|⟨r4,r5⟩
 rotate_left
 by_cases h6:(v8.length+1)*16≤140737488355328
 all_goals simp -implicitDefEqProofs only [*,-ih,flf_0,flx_0,fly_0,vref03_Turn,vref22_common,EVA.down,ne_eq,seval]
 all_goals exact ih _ _ _ _ _ _ _ _ _ _ _ (by simp only [*,-ih,flf_0,flx_0,fly_0,vref03_Turn,vref22_common,EVA.down,ne_eq,seval])
theorem lref22_RebuildL7 (D:Nat)(hD:1≤D)(F:Nat)(K:AE→AS→Option Res):∀ (f:Nat) (v0:List (BitVec 64)) (v1 v2 v3 v4 v5 v6 v7:Int) (v8:List S57) (s:AS),s.keepG 3 [0,2,4,5,6,7,8,9,10] [2,6]=some ⟨[(0,.vs v0.length .unk (enc c34 v0)),(2,.lp 2 0),(4,.i .i64 v1),(5,.i .i64 v2),(6,.lp 6 0),(7,.i .i64 v3),(8,.i .i64 v4),(9,.sl none 0 (.ex 0)),(10,.i .i64 v5)],[(2,[.i .i64 v6,.sl none 0 (.ex 0)]),(6,[.i .i64 v7,.sl (some (3,0)) v8.length .op])],[(3,⟨true,true,57,2,enc S57.cs v8⟩),(1,tab64)],4⟩→
 evLoop (evC (OV F D) 3 F a5L0) f s K=match Pref22_RebuildL7 F f v0 v1 v2 v3 v4 v5 v6 v7 v8 with|none=>none|some (.inl (y0,y1,y2,y3,y4,y5,y6,y7))=>K (.ex 4) ⟨[(0,.vs y0.length .unk (enc c34 y0)),(2,.lp 2 0),(4,.i .i64 y1),(5,.i .i64 y2),(6,.lp 6 0),(7,.i .i64 y3),(8,.i .i64 y4),(9,.sl none 0 (.ex 0))],[(2,[.i .i64 y5,.sl none 0 (.ex 0)]),(6,[.i .i64 y6,.sl (some (3,0)) y7.length .op])],[(3,⟨true,true,57,2,enc S57.cs y7⟩),(1,tab64)],4⟩|some (.inr (y0,y1,y2,y3,y4,y5,y6,y7,y8))=>K (.ex 4) ⟨[(0,.vs y0.length .unk (enc c34 y0)),(2,.lp 2 0),(4,.i .i64 y1),(5,.i .i64 y2),(6,.lp 6 0),(7,.i .i64 y3),(8,.i .i64 y4),(9,.sl (some (3,0)) y7.length .op)],[(2,[.i .i64 y5,.sl none 0 (.ex 0)]),(6,[.i .i64 y6,.sl (some (4,0)) y8.length .op])],[(3,⟨true,true,57,2,enc S57.cs y7⟩),(4,⟨true,true,57,2,enc S57.cs y8⟩),(1,tab64)],5⟩:=by
 obtain ⟨D,rfl⟩:=dex hD
 have flf_0:AV.f .f64 0=.f .f64 (0#64).toNat:=id rfl
 have flx_0:∀ x,AV.c .f64 x 0=.c .f64 x (0#64).toNat:=fun _=>id rfl
 have fly_0:∀ x,AV.c .f64 0 x=.c .f64 (0#64).toNat x:=fun _=>id rfl
 have cref03_Turn0:=eref03_Turn (D) (by omega) F
 have cref22_common0:=eref22_common (D) (by omega) F
 have nlref22_RebuildL6:=lref22_RebuildL6 (D+1) (by omega) F K
 intro f
 induction f with
 |zero=>intro v0 v1 v2 v3 v4 v5 v6 v7 v8 s hs;simp only [evLoop,Pref22_RebuildL7]
 |succ f ih=>
 intro v0 v1 v2 v3 v4 v5 v6 v7 v8 s hs
 obtain ⟨k0,hk,hn,he,hr⟩:=@lk_all (OV F (D+1)) 3 F a5L0 f K
 rw [loop_succ,hk,a5L0,runC_cutg,hs]
 clear hs
 simp only [Pref22_RebuildL7]
 clear hk
 by_cases h1:v5<v2
 rcases ixo (@pk_c34 v0 (IntKind.i64.wrap ((bitop .xor .i64 v3 v4)+(IntKind.i64.wrap (v2*v5))))) with h2|⟨x1,h2⟩
 rotate_left
 rcases h3:(Pref22_common F (bitop .xor .i64 v3 v4) v5) with _|r2
 rotate_left
 rcases h4:(Pref22_common F v4 v5) with _|r3
 rotate_left
 rcases h5:(Pref03_Turn x1 0#64 (IntKind.i64.wrap (r2+(IntKind.i64.wrap (2*r3))))) with _|⟨r4,r5⟩
 all_goals simp -implicitDefEqProofs only [*,-ih,flf_0,flx_0,fly_0,vref03_Turn,vref22_common,EVA.down,ne_eq,seval]
 all_goals exact nlref22_RebuildL6 f _ _ _ _ _ _ _ _ _ _ _ (by simp only [*,-ih,flf_0,flx_0,fly_0,vref03_Turn,vref22_common,EVA.down,ne_eq,seval])
theorem lref22_RebuildL8 (D:Nat)(hD:4≤D)(F:Nat)(K:AE→AS→Option Res):∀ (f:Nat) (v0:List (BitVec 64)) (v1 v2 v3 v4 v5 v6:Int) (v7:List S57) (s:AS),s.keepG 3 [0,2,4,5,6,7,8] [2,6]=some ⟨[(0,.vs v0.length .unk (enc c34 v0)),(2,.lp 2 0),(4,.i .i64 v1),(5,.i .i64 v2),(6,.lp 6 0),(7,.i .i64 v3),(8,.i .i64 v4)],[(2,[.i .i64 v5,.sl none 0 (.ex 0)]),(6,[.i .i64 v6,.sl (some (3,0)) v7.length .op])],[(3,⟨true,true,57,2,enc S57.cs v7⟩),(1,tab64)],4⟩→
 evLoop (evC (OV F D) 3 F a5L1) f s K=match Pref22_RebuildL8 F f v0 v1 v2 v3 v4 v5 v6 v7 with|none=>none|some (y0,y1,y2,y3,y4,y5,y6)=>K (.ex 2) ⟨[(0,.vs y0.length .unk (enc c34 y0)),(2,.lp 2 0),(4,.i .i64 y1),(5,.i .i64 y2),(6,.lp 6 0),(7,.i .i64 y3)],[(2,[.i .i64 y4,.sl none 0 (.ex 0)]),(6,[.i .i64 y5,.sl (some (3,0)) y6.length .op])],[(3,⟨true,true,57,2,enc S57.cs y6⟩),(1,tab64)],4⟩:=by
 obtain ⟨D,rfl⟩:=dex hD
 have flf_0:AV.f .f64 0=.f .f64 (0#64).toNat:=id rfl
 have flx_0:∀ x,AV.c .f64 x 0=.c .f64 x (0#64).toNat:=fun _=>id rfl
 have fly_0:∀ x,AV.c .f64 0 x=.c .f64 (0#64).toNat x:=fun _=>id rfl
 have cref03_Half0:=eref03_Half (D+3) (by omega) F
 have cref03_Sum0:=eref03_Sum (D+3) (by omega) F
 have cref03_Clean0:=eref03_Clean (D+3) (by omega) F
 have cref03_Sum0_0:=eref03_Sum (D+3) (by omega) F []
 simp only [List.length_nil,enc_nil] at cref03_Sum0_0
 intro f
 induction f with
 |zero=>intro v0 v1 v2 v3 v4 v5 v6 v7 s hs;simp only [evLoop,Pref22_RebuildL8]
 |succ f ih=>
 intro v0 v1 v2 v3 v4 v5 v6 v7 s hs
 obtain ⟨k0,hk,hn,he,hr⟩:=@lk_all (OV F (D+4)) 3 F a5L1 f K
 rw [loop_succ,hk,a5L1,runC_cutg,hs]
 clear hs
 simp only [Pref22_RebuildL8]
 clear hk
 by_cases h1:v4<v2
 simp -implicitDefEqProofs only [*,-ih,flf_0,flx_0,fly_0,vref03_Half,vref03_Sum,vref03_Clean,runC_loop,EVA.down,ne_eq,seval]
 rw [lref22_RebuildL7 (D+4) (by omega) F  _ F v0 v1 v2 v3 v4 0 v5 v6 v7 _ (by simp only [*,-ih,flf_0,flx_0,fly_0,vref03_Half,vref03_Sum,vref03_Clean,EVA.down,ne_eq,seval];try rfl)]
 rcases h2:(Pref22_RebuildL7 F F v0 v1 v2 v3 v4 0 v5 v6 v7) with _|(⟨y1,y2,y3,y4,y5,y6,y7,y8⟩|⟨y9,y10,y11,y12,y13,y14,y15,y16,y17⟩)
 rotate_left
 rcases h3:(Pref03_Sum F ([])) with _|⟨r18,r19⟩
 rotate_left
 rcases h4:(Pref03_Half r18 r19 y2) with _|⟨r20,r21,r22⟩
 rotate_left
 rcases h5:(Pref03_Clean r20 r21) with ⟨r23,r24⟩
 by_cases h6:(y8.length+1)*16≤140737488355328
 rotate_left
 rotate_left
 rcases h7:(Pref03_Sum F y16) with _|⟨r25,r26⟩
 rotate_left
 rcases h8:(Pref03_Half r25 r26 y10) with _|⟨r27,r28,r29⟩
 rotate_left
 rcases h9:(Pref03_Clean r27 r28) with ⟨r30,r31⟩
 by_cases h10:(y17.length+1)*16≤140737488355328
 all_goals simp -implicitDefEqProofs only [*,-ih,flf_0,flx_0,fly_0,vref03_Half,vref03_Sum,vref03_Clean,EVA.down,ne_eq,seval]
 all_goals exact ih _ _ _ _ _ _ _ _ _ (by simp only [*,-ih,flf_0,flx_0,fly_0,vref03_Half,vref03_Sum,vref03_Clean,EVA.down,ne_eq,seval])
theorem lref22_RebuildL9 (D:Nat)(hD:4≤D)(F:Nat)(K:AE→AS→Option Res):∀ (f:Nat) (v0:List (BitVec 64)) (v1 v2 v3 v4 v5:Int) (v6:List S57) (s:AS),s.keepG 3 [0,2,4,5,6,7] [2,6]=some ⟨[(0,.vs v0.length .unk (enc c34 v0)),(2,.lp 2 0),(4,.i .i64 v1),(5,.i .i64 v2),(6,.lp 6 0),(7,.i .i64 v3)],[(2,[.i .i64 v4,.sl none 0 (.ex 0)]),(6,[.i .i64 v5,.sl (some (3,0)) v6.length .op])],[(3,⟨true,true,57,2,enc S57.cs v6⟩),(1,tab64)],4⟩→
 evLoop (evC (OV F D) 3 F a5L2) f s K=match Pref22_RebuildL9 F f v0 v1 v2 v3 v4 v5 v6 with|none=>none|some (.inl (y0,y1))=>K (.ex 0) ⟨[(2,.lp 2 0),(6,.lp 6 0)],[(2,[.i .i64 y0,.sl none 0 (.ex 0)]),(6,[.i .i64 y1,.sl none 0 (.ex 0)])],[(1,tab64)],3⟩|some (.inr (y0,y1,y2))=>K (.ex 0) ⟨[(2,.lp 2 0),(6,.lp 6 0)],[(2,[.i .i64 y0,.sl none 0 (.ex 0)]),(6,[.i .i64 y1,.sl (some (3,0)) y2.length .op])],[(3,⟨true,true,57,2,enc S57.cs y2⟩),(1,tab64)],4⟩:=by
 obtain ⟨D,rfl⟩:=dex hD
 intro f
 induction f with
 |zero=>intro v0 v1 v2 v3 v4 v5 v6 s hs;simp only [evLoop,Pref22_RebuildL9]
 |succ f ih=>
 intro v0 v1 v2 v3 v4 v5 v6 s hs
 obtain ⟨k0,hk,hn,he,hr⟩:=@lk_all (OV F (D+4)) 3 F a5L2 f K
 rw [loop_succ,hk,a5L2,runC_cutg,hs]
 clear hs
 simp only [Pref22_RebuildL9]
 clear hk
 by_cases h1:v3<v2
 simp -implicitDefEqProofs only [*,-ih,runC_loop,EVA.down,ne_eq,seval]
 rw [lref22_RebuildL8 (D+4) (by omega) F  _ F v0 v1 v2 v3 0 v4 v5 v6 _ (by simp only [*,-ih,EVA.down,ne_eq,seval];try rfl)]
 rcases h2:(Pref22_RebuildL8 F F v0 v1 v2 v3 0 v4 v5 v6) with _|⟨y1,y2,y3,y4,y5,y6,y7⟩
 all_goals simp -implicitDefEqProofs only [*,-ih,EVA.down,ne_eq,seval]
 all_goals exact ih _ _ _ _ _ _ _ _ (by simp only [*,-ih,EVA.down,ne_eq,seval])
theorem lref22_RebuildL10 (D:Nat)(hD:4≤D)(F:Nat)(K:AE→AS→Option Res):∀ (f:Nat) (v0:List (BitVec 64)) (v1 v2 v3 v4 v5:Int) (s:AS),s.keepG 3 [0,2,4,5,6,7] [2,6]=some ⟨[(0,.vs v0.length .unk (enc c34 v0)),(2,.lp 2 0),(4,.i .i64 v1),(5,.i .i64 v2),(6,.lp 6 0),(7,.i .i64 v3)],[(2,[.i .i64 v4,.sl none 0 (.ex 0)]),(6,[.i .i64 v5,.sl none 0 (.ex 0)])],[(1,tab64)],3⟩→
 evLoop (evC (OV F D) 3 F a5L2) f s K=match Pref22_RebuildL10 F f v0 v1 v2 v3 v4 v5 with|none=>none|some (.inl (y0,y1))=>K (.ex 0) ⟨[(2,.lp 2 0),(6,.lp 6 0)],[(2,[.i .i64 y0,.sl none 0 (.ex 0)]),(6,[.i .i64 y1,.sl none 0 (.ex 0)])],[(1,tab64)],3⟩|some (.inr (y0,y1,y2))=>K (.ex 0) ⟨[(2,.lp 2 0),(6,.lp 6 0)],[(2,[.i .i64 y0,.sl none 0 (.ex 0)]),(6,[.i .i64 y1,.sl (some (3,0)) y2.length .op])],[(3,⟨true,true,57,2,enc S57.cs y2⟩),(1,tab64)],4⟩:=by
 obtain ⟨D,rfl⟩:=dex hD
 have nlref22_RebuildL9:=lref22_RebuildL9 (D+4) (by omega) F K
 intro f
 induction f with
 |zero=>intro v0 v1 v2 v3 v4 v5 s hs;simp only [evLoop,Pref22_RebuildL10]
 |succ f ih=>
 intro v0 v1 v2 v3 v4 v5 s hs
 obtain ⟨k0,hk,hn,he,hr⟩:=@lk_all (OV F (D+4)) 3 F a5L2 f K
 rw [loop_succ,hk,a5L2,runC_cutg,hs]
 clear hs
 simp only [Pref22_RebuildL10]
 clear hk
 by_cases h1:v3<v2
 simp -implicitDefEqProofs only [*,-ih,runC_loop,EVA.down,ne_eq,seval]
 rw [lref22_RebuildL5 (D+4) (by omega) F  _ F v0 v1 v2 v3 0 v4 v5 _ (by simp only [*,-ih,EVA.down,ne_eq,seval];try rfl)]
 rcases h2:(Pref22_RebuildL5 F F v0 v1 v2 v3 0 v4 v5) with _|(⟨y1,y2,y3,y4,y5,y6⟩|⟨y7,y8,y9,y10,y11,y12,y13⟩)
 all_goals simp -implicitDefEqProofs only [*,-ih,EVA.down,ne_eq,seval]
 all_goals first|exact ih _ _ _ _ _ _ _ (by simp only [*,-ih,EVA.down,ne_eq,seval])|exact nlref22_RebuildL9 f _ _ _ _ _ _ _ _ (by simp only [*,-ih,EVA.down,ne_eq,seval])
theorem eref22_Rebuild (D:Nat)(hD:4≤D)(F:Nat)(a0:List (BitVec 64))(q:Bool):evW 3 (OV F D) F a5 (some [.vs a0.length .unk (enc c34 a0)]) q G0 =
 match Pref22_Rebuild F a0 with|none=>none|some (r0,r1,r2)=>some (.tup [.agg [.i .i64 r0,.vs r1.length .unk (enc S57.cs r1)],.i .i64 r2],none):=by
 obtain ⟨D,rfl⟩:=dex hD
 have cref22_side0:=eref22_side (D+3) (by omega) F
 rw [evW_some,G0]
 simp only [Pref22_Rebuild]
 rcases h1:(Pref22_side F (a0.length:Int)) with _|r1
 rotate_left
 by_cases h2:r1<0
 rotate_left
 simp -implicitDefEqProofs only [*,a5,vref22_side,runC_loop,EVA.down,ne_eq,seval]
 rw [lref22_RebuildL10 (D+4) (by omega) F  _ F a0 r1 (IntKind.i64.wrap (1*2 ^ (min (U (BitVec.ofInt 64 r1)).toNat 64))) 0 0 (IntKind.i64.wrap (1*2 ^ (min (U (BitVec.ofInt 64 r1)).toNat 64))) _ (by simp only [*,a5,vref22_side,EVA.down,ne_eq,seval];try rfl)]
 rcases h3:(Pref22_RebuildL10 F F a0 r1 (IntKind.i64.wrap (1*2 ^ (min (U (BitVec.ofInt 64 r1)).toNat 64))) 0 0 (IntKind.i64.wrap (1*2 ^ (min (U (BitVec.ofInt 64 r1)).toNat 64)))) with _|(⟨y2,y3⟩|⟨y4,y5,y6⟩)
 all_goals simp -implicitDefEqProofs only [*,a5,vref22_side,EVA.down,ne_eq,seval]
theorem vref22_Rebuild {D F n:Nat}{args:List AV}{h:AHeap}:OV F (D+1) 5 args h n (n+1)=evW 3 (OV F D) F a5 (frzs (frz true 0 (bif AV.nors args then [] else h) 8) args) (AV.nors args) (hglb h 3):=evV_frozen rfl
theorem lexpect_PurityL0 (D:Nat)(hD:0≤D)(F:Nat)(K:AE→AS→Option Res):∀ (f:Nat) (v0:Int) (v1:List (BitVec 64)) (v2 v3:Int) (v4:List (BitVec 64)) (s:AS),s.keepG 3 [4,5,12,13,14] []=some ⟨[(4,.i .i64 v0),(5,.sl (some (3,0)) v4.length .op),(12,.vs v1.length .unk (enc c34 v1)),(13,.i .i64 v2),(14,.i .i64 v3)],[],[(3,⟨true,true,34,1,enc c34 v4⟩),(1,tab64)],4⟩→
 evLoop (evC (OV F D) 3 F a6L0) f s K=match Pexpect_PurityL0 f v0 v1 v2 v3 v4 with|none=>none|some (.inl y0)=>K (.ex 0) ⟨[(4,.i .i64 y0),(5,.sl none 0 (.ex 0))],[],[(1,tab64)],3⟩|some (.inr (y0,y1))=>K (.ex 0) ⟨[(4,.i .i64 y0),(5,.sl (some (3,0)) y1.length .op)],[],[(3,⟨true,true,34,1,enc c34 y1⟩),(1,tab64)],4⟩:=by
 have flf_0:AV.f .f64 0=.f .f64 (0#64).toNat:=id rfl
 have flx_0:∀ x,AV.c .f64 x 0=.c .f64 x (0#64).toNat:=fun _=>id rfl
 have fly_0:∀ x,AV.c .f64 0 x=.c .f64 (0#64).toNat x:=fun _=>id rfl
 intro f
 induction f with
 |zero=>intro v0 v1 v2 v3 v4 s hs;simp only [evLoop,Pexpect_PurityL0]
 |succ f ih=>
 intro v0 v1 v2 v3 v4 s hs
 obtain ⟨k0,hk,hn,he,hr⟩:=@lk_all (OV F (D)) 3 F a6L0 f K
 rw [loop_succ,hk,a6L0,runC_cutg,hs]
 clear hs
 simp only [Pexpect_PurityL0]
 clear hk
 by_cases h1:v3<v2
 rcases ixo (@pk_c34 v1 v3) with h2|⟨x1,h2⟩
 rotate_left
 by_cases h3:(v4.length+1)*8≤140737488355328
 all_goals simp -implicitDefEqProofs only [*,-ih,flf_0,flx_0,fly_0,EVA.down,ne_eq,seval]
 all_goals exact ih _ _ _ _ _ _ (by simp only [*,-ih,flf_0,flx_0,fly_0,EVA.down,ne_eq,seval])
theorem lexpect_PurityL1 (D:Nat)(hD:0≤D)(F:Nat)(K:AE→AS→Option Res):∀ (f:Nat) (v0:Int) (v1:List (BitVec 64)) (v2 v3:Int) (s:AS),s.keepG 3 [4,5,12,13,14] []=some ⟨[(4,.i .i64 v0),(5,.sl none 0 (.ex 0)),(12,.vs v1.length .unk (enc c34 v1)),(13,.i .i64 v2),(14,.i .i64 v3)],[],[(1,tab64)],3⟩→
 evLoop (evC (OV F D) 3 F a6L0) f s K=match Pexpect_PurityL1 f v0 v1 v2 v3 with|none=>none|some (.inl y0)=>K (.ex 0) ⟨[(4,.i .i64 y0),(5,.sl none 0 (.ex 0))],[],[(1,tab64)],3⟩|some (.inr (y0,y1))=>K (.ex 0) ⟨[(4,.i .i64 y0),(5,.sl (some (3,0)) y1.length .op)],[],[(3,⟨true,true,34,1,enc c34 y1⟩),(1,tab64)],4⟩:=by
 have flf_0:AV.f .f64 0=.f .f64 (0#64).toNat:=id rfl
 have flx_0:∀ x,AV.c .f64 x 0=.c .f64 x (0#64).toNat:=fun _=>id rfl
 have fly_0:∀ x,AV.c .f64 0 x=.c .f64 (0#64).toNat x:=fun _=>id rfl
 have nlexpect_PurityL0:=lexpect_PurityL0 (D) (by omega) F K
 intro f
 induction f with
 |zero=>intro v0 v1 v2 v3 s hs;simp only [evLoop,Pexpect_PurityL1]
 |succ f ih=>
 intro v0 v1 v2 v3 s hs
 obtain ⟨k0,hk,hn,he,hr⟩:=@lk_all (OV F (D)) 3 F a6L0 f K
 rw [loop_succ,hk,a6L0,runC_cutg,hs]
 clear hs
 simp only [Pexpect_PurityL1]
 clear hk
 by_cases h1:v3<v2
 rcases ixo (@pk_c34 v1 v3) with h2|⟨x1,h2⟩
 all_goals simp -implicitDefEqProofs only [*,-ih,flf_0,flx_0,fly_0,EVA.down,ne_eq,seval]
 all_goals exact nlexpect_PurityL0 f _ _ _ _ _ _ (by simp only [*,-ih,flf_0,flx_0,fly_0,EVA.down,ne_eq,seval])
theorem lscalar_SumL0 (D:Nat)(hD:0≤D)(F:Nat)(v1:List (BitVec 64))(v2:Int)(K:AE→AS→Option Res):∀ (f:Nat) (v0:BitVec 64) (v3:Int) (s:AS),s.keep [3,6,7,8] []=some ⟨[(3,.f .f64 (v0).toNat),(6,.vs v1.length .unk (enc c34 v1)),(7,.i .i64 v2),(8,.i .i64 v3)],[],[(1,tab64)],3⟩→
 evLoop (evC (OV F D) 3 F a27L0) f s K=match Pscalar_SumL0 v1 v2 f v0 v3 with|none=>none|some (y0)=>K (.ex 0) ⟨[(3,.f .f64 (y0).toNat)],[],[(1,tab64)],3⟩:=by
 intro f
 induction f with
 |zero=>intro v0 v3 s hs;simp only [evLoop,Pscalar_SumL0]
 |succ f ih=>
 intro v0 v3 s hs
 obtain ⟨k0,hk,hn,he,hr⟩:=@lk_all (OV F (D)) 3 F a27L0 f K
 rw [loop_succ,hk,a27L0,runC_cut,hs]
 clear hs
 simp only [Pscalar_SumL0]
 clear hk
 by_cases h1:v3<v2
 rcases ixo (@pk_c34 v1 v3) with h2|⟨x1,h2⟩
 all_goals simp -implicitDefEqProofs only [*,-ih,EVA.down,ne_eq,seval]
 all_goals exact ih _ _ _ (by simp only [*,-ih,EVA.down,ne_eq,seval])
theorem escalar_Sum (D:Nat)(hD:0≤D)(F:Nat)(a0:List (BitVec 64))(q:Bool):evW 3 (OV F D) F a27 (some [.vs a0.length .unk (enc c34 a0)]) q G0 =
 match Pscalar_Sum F a0 with|none=>none|some r0=>some (.f .f64 (r0).toNat,none):=by
 have flf_0:AV.f .f64 0=.f .f64 (0#64).toNat:=id rfl
 have flx_0:∀ x,AV.c .f64 x 0=.c .f64 x (0#64).toNat:=fun _=>id rfl
 have fly_0:∀ x,AV.c .f64 0 x=.c .f64 (0#64).toNat x:=fun _=>id rfl
 rw [evW_some,G0]
 simp only [Pscalar_Sum]
 simp -implicitDefEqProofs only [*,a27,flf_0,flx_0,fly_0,runC_loop,EVA.down,ne_eq,seval]
 rw [lscalar_SumL0 (D) (by omega) F a0 (a0.length:Int) _ F 0#64 0 _ (by simp only [*,a27,flf_0,flx_0,fly_0,EVA.down,ne_eq,seval];try rfl)]
 rcases h1:(Pscalar_SumL0 a0 (a0.length:Int) F 0#64 0) with _|y1
 all_goals simp -implicitDefEqProofs only [*,a27,flf_0,flx_0,fly_0,EVA.down,ne_eq,seval]
theorem vscalar_Sum {D F n:Nat}{args:List AV}{h:AHeap}:OV F (D+1) 27 args h n (n+1)=evW 3 (OV F D) F a27 (frzs (frz true 0 (bif AV.nors args then [] else h) 8) args) (AV.nors args) (hglb h 3):=evV_frozen rfl
theorem eexpect_Purity (D:Nat)(hD:3≤D)(F:Nat)(a0:List (BitVec 64))(q:Bool):evW 3 (OV F D) F a6 (some [.vs a0.length .unk (enc c34 a0)]) q G0 =
 match Pexpect_Purity F a0 with|none=>none|some (r0,r1)=>some (.tup [.f .f64 (r0).toNat,.i .i64 r1],none):=by
 obtain ⟨D,rfl⟩:=dex hD
 have flf_0:AV.f .f64 0=.f .f64 (0#64).toNat:=id rfl
 have flx_0:∀ x,AV.c .f64 x 0=.c .f64 x (0#64).toNat:=fun _=>id rfl
 have fly_0:∀ x,AV.c .f64 0 x=.c .f64 (0#64).toNat x:=fun _=>id rfl
 have cexpect_qubits0:=eexpect_qubits (D+2) (by omega) F
 have cmath_Ldexp0:=emath_Ldexp (D+2) (by omega) F
 have cscalar_Sum0:=escalar_Sum (D+2) (by omega) F
 have cscalar_Sum0_0:=escalar_Sum (D+2) (by omega) F []
 simp only [List.length_nil,enc_nil] at cscalar_Sum0_0
 rw [evW_some,G0]
 simp only [Pexpect_Purity]
 rcases h1:(Pexpect_qubits F a0) with _|r1
 rotate_left
 by_cases h2:r1<0
 rotate_left
 simp -implicitDefEqProofs only [*,a6,flf_0,flx_0,fly_0,vexpect_qubits,vmath_Ldexp,vscalar_Sum,runC_loop,EVA.down,ne_eq,seval]
 rw [lexpect_PurityL1 (D+3) (by omega) F  _ F r1 a0 (a0.length:Int) 0 _ (by simp only [*,a6,flf_0,flx_0,fly_0,vexpect_qubits,vmath_Ldexp,vscalar_Sum,EVA.down,ne_eq,seval];try rfl)]
 rcases h3:(Pexpect_PurityL1 F r1 a0 (a0.length:Int) 0) with _|(y2|⟨y3,y4⟩)
 rotate_left
 rcases h4:(Pscalar_Sum F ([])) with _|r5
 rotate_left
 rcases h5:(Pmath_Ldexp r5 (IntKind.i64.wrap (0-y2))) with _|r6
 rotate_left
 rotate_left
 rcases h6:(Pscalar_Sum F y4) with _|r7
 rotate_left
 rcases h7:(Pmath_Ldexp r7 (IntKind.i64.wrap (0-y3))) with _|r8
 all_goals simp -implicitDefEqProofs only [*,a6,flf_0,flx_0,fly_0,vexpect_qubits,vmath_Ldexp,vscalar_Sum,EVA.down,ne_eq,seval]
theorem vexpect_Purity {D F n:Nat}{args:List AV}{h:AHeap}:OV F (D+1) 6 args h n (n+1)=evW 3 (OV F D) F a6 (frzs (frz true 0 (bif AV.nors args then [] else h) 8) args) (AV.nors args) (hglb h 3):=evV_frozen rfl
theorem lref22_PurityL0 (D:Nat)(hD:0≤D)(F:Nat)(K:AE→AS→Option Res):∀ (f:Nat) (v0:List (BitVec 64)) (v1 v2:Int) (v3:List (BitVec 64)) (s:AS),s.keepG 3 [0,4,5,6] []=some ⟨[(0,.vs v0.length .unk (enc c34 v0)),(4,.i .i64 v1),(5,.sl (some (3,0)) v3.length .op),(6,.i .i64 v2)],[],[(3,⟨true,true,34,1,enc c34 v3⟩),(1,tab64)],4⟩→
 evLoop (evC (OV F D) 3 F a7L0) f s K=match Pref22_PurityL0 f v0 v1 v2 v3 with|none=>none|some (.inl y0)=>K (.ex 0) ⟨[(4,.i .i64 y0),(5,.sl none 0 (.ex 0))],[],[(1,tab64)],3⟩|some (.inr (y0,y1))=>K (.ex 0) ⟨[(4,.i .i64 y0),(5,.sl (some (3,0)) y1.length .op)],[],[(3,⟨true,true,34,1,enc c34 y1⟩),(1,tab64)],4⟩:=by
 have flf_0:AV.f .f64 0=.f .f64 (0#64).toNat:=id rfl
 have flx_0:∀ x,AV.c .f64 x 0=.c .f64 x (0#64).toNat:=fun _=>id rfl
 have fly_0:∀ x,AV.c .f64 0 x=.c .f64 (0#64).toNat x:=fun _=>id rfl
 intro f
 induction f with
 |zero=>intro v0 v1 v2 v3 s hs;simp only [evLoop,Pref22_PurityL0]
 |succ f ih=>
 intro v0 v1 v2 v3 s hs
 obtain ⟨k0,hk,hn,he,hr⟩:=@lk_all (OV F (D)) 3 F a7L0 f K
 rw [loop_succ,hk,a7L0,runC_cutg,hs]
 clear hs
 simp only [Pref22_PurityL0]
 clear hk
 by_cases h1:v2<(v0.length:Int)
 rcases ixo (@pk_c34 v0 v2) with h2|⟨x1,h2⟩
 rotate_left
 by_cases h3:(v3.length+1)*8≤140737488355328
 all_goals simp -implicitDefEqProofs only [*,-ih,flf_0,flx_0,fly_0,EVA.down,ne_eq,seval]
 all_goals exact ih _ _ _ _ _ (by simp only [*,-ih,flf_0,flx_0,fly_0,EVA.down,ne_eq,seval])
theorem lref22_PurityL1 (D:Nat)(hD:0≤D)(F:Nat)(K:AE→AS→Option Res):∀ (f:Nat) (v0:List (BitVec 64)) (v1 v2:Int) (s:AS),s.keepG 3 [0,4,5,6] []=some ⟨[(0,.vs v0.length .unk (enc c34 v0)),(4,.i .i64 v1),(5,.sl none 0 (.ex 0)),(6,.i .i64 v2)],[],[(1,tab64)],3⟩→
 evLoop (evC (OV F D) 3 F a7L0) f s K=match Pref22_PurityL1 f v0 v1 v2 with|none=>none|some (.inl y0)=>K (.ex 0) ⟨[(4,.i .i64 y0),(5,.sl none 0 (.ex 0))],[],[(1,tab64)],3⟩|some (.inr (y0,y1))=>K (.ex 0) ⟨[(4,.i .i64 y0),(5,.sl (some (3,0)) y1.length .op)],[],[(3,⟨true,true,34,1,enc c34 y1⟩),(1,tab64)],4⟩:=by
 have flf_0:AV.f .f64 0=.f .f64 (0#64).toNat:=id rfl
 have flx_0:∀ x,AV.c .f64 x 0=.c .f64 x (0#64).toNat:=fun _=>id rfl
 have fly_0:∀ x,AV.c .f64 0 x=.c .f64 (0#64).toNat x:=fun _=>id rfl
 have nlref22_PurityL0:=lref22_PurityL0 (D) (by omega) F K
 intro f
 induction f with
 |zero=>intro v0 v1 v2 s hs;simp only [evLoop,Pref22_PurityL1]
 |succ f ih=>
 intro v0 v1 v2 s hs
 obtain ⟨k0,hk,hn,he,hr⟩:=@lk_all (OV F (D)) 3 F a7L0 f K
 rw [loop_succ,hk,a7L0,runC_cutg,hs]
 clear hs
 simp only [Pref22_PurityL1]
 clear hk
 by_cases h1:v2<(v0.length:Int)
 rcases ixo (@pk_c34 v0 v2) with h2|⟨x1,h2⟩
 all_goals simp -implicitDefEqProofs only [*,-ih,flf_0,flx_0,fly_0,EVA.down,ne_eq,seval]
 all_goals exact nlref22_PurityL0 f _ _ _ _ _ (by simp only [*,-ih,flf_0,flx_0,fly_0,EVA.down,ne_eq,seval])
theorem lref02_SumL0 (D:Nat)(hD:0≤D)(F:Nat)(v0:List (BitVec 64))(K:AE→AS→Option Res):∀ (f:Nat) (v1:BitVec 64) (v2:Int) (s:AS),s.keep [0,3,4] []=some ⟨[(0,.vs v0.length .unk (enc c34 v0)),(3,.f .f64 (v1).toNat),(4,.i .i64 v2)],[],[(1,tab64)],3⟩→
 evLoop (evC (OV F D) 3 F a28L0) f s K=match Pref02_SumL0 v0 f v1 v2 with|none=>none|some (y0)=>K (.ex 0) ⟨[(3,.f .f64 (y0).toNat)],[],[(1,tab64)],3⟩:=by
 intro f
 induction f with
 |zero=>intro v1 v2 s hs;simp only [evLoop,Pref02_SumL0]
 |succ f ih=>
 intro v1 v2 s hs
 obtain ⟨k0,hk,hn,he,hr⟩:=@lk_all (OV F (D)) 3 F a28L0 f K
 rw [loop_succ,hk,a28L0,runC_cut,hs]
 clear hs
 simp only [Pref02_SumL0]
 clear hk
 by_cases h1:v2<(v0.length:Int)
 rcases ixo (@pk_c34 v0 v2) with h2|⟨x1,h2⟩
 all_goals simp -implicitDefEqProofs only [*,-ih,EVA.down,ne_eq,seval]
 all_goals exact ih _ _ _ (by simp only [*,-ih,EVA.down,ne_eq,seval])
theorem eref02_Sum (D:Nat)(hD:0≤D)(F:Nat)(a0:List (BitVec 64))(q:Bool):evW 3 (OV F D) F a28 (some [.vs a0.length .unk (enc c34 a0)]) q G0 =
 match Pref02_Sum F a0 with|none=>none|some r0=>some (.f .f64 (r0).toNat,none):=by
 have flf_0:AV.f .f64 0=.f .f64 (0#64).toNat:=id rfl
 have flx_0:∀ x,AV.c .f64 x 0=.c .f64 x (0#64).toNat:=fun _=>id rfl
 have fly_0:∀ x,AV.c .f64 0 x=.c .f64 (0#64).toNat x:=fun _=>id rfl
 rw [evW_some,G0]
 simp only [Pref02_Sum]
 simp -implicitDefEqProofs only [*,a28,flf_0,flx_0,fly_0,runC_loop,EVA.down,ne_eq,seval]
 rw [lref02_SumL0 (D) (by omega) F a0 _ F 0#64 0 _ (by simp only [*,a28,flf_0,flx_0,fly_0,EVA.down,ne_eq,seval];try rfl)]
 rcases h1:(Pref02_SumL0 a0 F 0#64 0) with _|y1
 all_goals simp -implicitDefEqProofs only [*,a28,flf_0,flx_0,fly_0,EVA.down,ne_eq,seval]
theorem vref02_Sum {D F n:Nat}{args:List AV}{h:AHeap}:OV F (D+1) 28 args h n (n+1)=evW 3 (OV F D) F a28 (frzs (frz true 0 (bif AV.nors args then [] else h) 8) args) (AV.nors args) (hglb h 3):=evV_frozen rfl
theorem eref22_Purity (D:Nat)(hD:3≤D)(F:Nat)(a0:List (BitVec 64))(q:Bool):evW 3 (OV F D) F a7 (some [.vs a0.length .unk (enc c34 a0)]) q G0 =
 match Pref22_Purity F a0 with|none=>none|some (r0,r1)=>some (.tup [.f .f64 (r0).toNat,.i .i64 r1],none):=by
 obtain ⟨D,rfl⟩:=dex hD
 have flf_0:AV.f .f64 0=.f .f64 (0#64).toNat:=id rfl
 have flx_0:∀ x,AV.c .f64 x 0=.c .f64 x (0#64).toNat:=fun _=>id rfl
 have fly_0:∀ x,AV.c .f64 0 x=.c .f64 (0#64).toNat x:=fun _=>id rfl
 have cref22_side0:=eref22_side (D+2) (by omega) F
 have cmath_Ldexp0:=emath_Ldexp (D+2) (by omega) F
 have cref02_Sum0:=eref02_Sum (D+2) (by omega) F
 have cref02_Sum0_0:=eref02_Sum (D+2) (by omega) F []
 simp only [List.length_nil,enc_nil] at cref02_Sum0_0
 rw [evW_some,G0]
 simp only [Pref22_Purity]
 rcases h1:(Pref22_side F (a0.length:Int)) with _|r1
 rotate_left
 by_cases h2:r1<0
 rotate_left
 simp -implicitDefEqProofs only [*,a7,flf_0,flx_0,fly_0,vref22_side,vmath_Ldexp,vref02_Sum,runC_loop,EVA.down,ne_eq,seval]
 rw [lref22_PurityL1 (D+3) (by omega) F  _ F a0 r1 0 _ (by simp only [*,a7,flf_0,flx_0,fly_0,vref22_side,vmath_Ldexp,vref02_Sum,EVA.down,ne_eq,seval];try rfl)]
 rcases h3:(Pref22_PurityL1 F a0 r1 0) with _|(y2|⟨y3,y4⟩)
 rotate_left
 rcases h4:(Pref02_Sum F ([])) with _|r5
 rotate_left
 rcases h5:(Pmath_Ldexp r5 (IntKind.i64.wrap (0-y2))) with _|r6
 rotate_left
 rotate_left
 rcases h6:(Pref02_Sum F y4) with _|r7
 rotate_left
 rcases h7:(Pmath_Ldexp r7 (IntKind.i64.wrap (0-y3))) with _|r8
 all_goals simp -implicitDefEqProofs only [*,a7,flf_0,flx_0,fly_0,vref22_side,vmath_Ldexp,vref02_Sum,EVA.down,ne_eq,seval]
theorem vref22_Purity {D F n:Nat}{args:List AV}{h:AHeap}:OV F (D+1) 7 args h n (n+1)=evW 3 (OV F D) F a7 (frzs (frz true 0 (bif AV.nors args then [] else h) 8) args) (AV.nors args) (hglb h 3):=evV_frozen rfl
theorem elaw22_num (D:Nat)(hD:0≤D)(F:Nat)(a0:Int)(q:Bool):evW 3 (OV F D) F a8 (some [.i .i64 a0]) q G0 =
 some (.i .i64 ((Plaw22_num a0)),none):=by
 rw [evW_some,G0]
 skip
 all_goals simp -implicitDefEqProofs (maxSteps:=4000000) only [*,a8,Plaw22_num,EVA.down,ne_eq,seval]
theorem vlaw22_num {D F n:Nat}{args:List AV}{h:AHeap}:OV F (D+1) 8 args h n (n+1)=evW 3 (OV F D) F a8 (frzs (frz true 0 (bif AV.nors args then [] else h) 8) args) (AV.nors args) (hglb h 3):=evV_frozen rfl
theorem elaw03_Z (D:Nat)(hD:0≤D)(F:Nat)(a0_re a0_im:BitVec 64)(q:Bool):evW 3 (OV F D) F a47 (some [.c .f64 (a0_re).toNat (a0_im).toNat]) q G0 =
 match Plaw03_Z a0_re a0_im with|(r0,r1)=>some (.agg [.f .f64 (r0).toNat,.f .f64 (r1).toNat],none):=by
 have flf_0:AV.f .f64 0=.f .f64 (0#64).toNat:=id rfl
 have flx_0:∀ x,AV.c .f64 x 0=.c .f64 x (0#64).toNat:=fun _=>id rfl
 have fly_0:∀ x,AV.c .f64 0 x=.c .f64 (0#64).toNat x:=fun _=>id rfl
 rw [evW_some,G0]
 skip
 all_goals simp -implicitDefEqProofs (maxSteps:=4000000) only [*,a47,Plaw03_Z,flf_0,flx_0,fly_0,EVA.down,ne_eq,seval]
theorem vlaw03_Z {D F n:Nat}{args:List AV}{h:AHeap}:OV F (D+1) 47 args h n (n+1)=evW 3 (OV F D) F a47 (frzs (frz true 0 (bif AV.nors args then [] else h) 8) args) (AV.nors args) (hglb h 3):=evV_frozen rfl
theorem eref01_Bits64 (D:Nat)(hD:0≤D)(F:Nat)(a0:BitVec 64)(q:Bool):evW 3 (OV F D) F a73 (some [.f .f64 (a0).toNat]) q G0 =
 match Pref01_Bits64 a0 with|none=>none|some r0=>some (.i .u64 (U r0),none):=by
 have u9221120237041090561:AV.i .u64 9221120237041090561=.i .u64 (U 9221120237041090561#64):=id rfl
 rw [evW_some,G0]
 simp only [Pref01_Bits64]
 rcases h1:(fCmp .neq a0 a0) with _|_
 rcases h2:(fNaN a0) with _|_
 all_goals simp -implicitDefEqProofs only [*,a73,EVA.down,ne_eq,seval]
theorem vref01_Bits64 {D F n:Nat}{args:List AV}{h:AHeap}:OV F (D+1) 73 args h n (n+1)=evW 3 (OV F D) F a73 (frzs (frz true 0 (bif AV.nors args then [] else h) 8) args) (AV.nors args) (hglb h 3):=evV_frozen rfl
theorem eref01_Same (D:Nat)(hD:1≤D)(F:Nat)(a0 a1:BitVec 64)(q:Bool):evW 3 (OV F D) F a60 (some [.f .f64 (a0).toNat,.f .f64 (a1).toNat]) q G0 =
 match Pref01_Same a0 a1 with|none=>none|some r0=>some (.b r0,none):=by
 obtain ⟨D,rfl⟩:=dex hD
 have cref01_Bits640:=eref01_Bits64 (D) (by omega) F
 rw [evW_some,G0]
 simp only [Pref01_Same]
 rcases h1:(Pref01_Bits64 a0) with _|r1
 rotate_left
 rcases h2:(Pref01_Bits64 a1) with _|r2
 all_goals simp -implicitDefEqProofs only [*,a60,vref01_Bits64,EVA.down,ne_eq,seval]
theorem vref01_Same {D F n:Nat}{args:List AV}{h:AHeap}:OV F (D+1) 60 args h n (n+1)=evW 3 (OV F D) F a60 (frzs (frz true 0 (bif AV.nors args then [] else h) 8) args) (AV.nors args) (hglb h 3):=evV_frozen rfl
theorem eref03_Same (D:Nat)(hD:2≤D)(F:Nat)(a0_Re a0_Im a1_Re a1_Im:BitVec 64)(q:Bool):evW 3 (OV F D) F a46 (some [.agg [.f .f64 (a0_Re).toNat,.f .f64 (a0_Im).toNat],.agg [.f .f64 (a1_Re).toNat,.f .f64 (a1_Im).toNat]]) q G0 =
 match Pref03_Same a0_Re a0_Im a1_Re a1_Im with|none=>none|some r0=>some (.b r0,none):=by
 obtain ⟨D,rfl⟩:=dex hD
 have cref01_Same0:=eref01_Same (D+1) (by omega) F
 rw [evW_some,G0]
 simp only [Pref03_Same]
 rcases h1:(Pref01_Same a0_Re a1_Re) with _|r1
 rotate_left
 rcases h2:(r1) with _|_
 rotate_left
 rcases h3:(Pref01_Same a0_Im a1_Im) with _|r2
 all_goals simp -implicitDefEqProofs only [*,a46,vref01_Same,EVA.down,ne_eq,seval]
theorem vref03_Same {D F n:Nat}{args:List AV}{h:AHeap}:OV F (D+1) 46 args h n (n+1)=evW 3 (OV F D) F a46 (frzs (frz true 0 (bif AV.nors args then [] else h) 8) args) (AV.nors args) (hglb h 3):=evV_frozen rfl
theorem elaw03_Is (D:Nat)(hD:3≤D)(F:Nat)(a0_re a0_im a1_Re a1_Im:BitVec 64)(q:Bool):evW 3 (OV F D) F a29 (some [.c .f64 (a0_re).toNat (a0_im).toNat,.agg [.f .f64 (a1_Re).toNat,.f .f64 (a1_Im).toNat]]) q G0 =
 match Plaw03_Is a0_re a0_im a1_Re a1_Im with|none=>none|some r0=>some (.b r0,none):=by
 obtain ⟨D,rfl⟩:=dex hD
 have cref03_Same0:=eref03_Same (D+2) (by omega) F
 have claw03_Z0:=elaw03_Z (D+2) (by omega) F
 rw [evW_some,G0]
 simp only [Plaw03_Is]
 rcases h1:(Plaw03_Z a0_re a0_im) with ⟨r1,r2⟩
 rcases h2:(Pref03_Same r1 r2 a1_Re a1_Im) with _|r3
 all_goals simp -implicitDefEqProofs (maxSteps:=4000000) only [*,a29,vref03_Same,vlaw03_Z,EVA.down,ne_eq,seval]
theorem vlaw03_Is {D F n:Nat}{args:List AV}{h:AHeap}:OV F (D+1) 29 args h n (n+1)=evW 3 (OV F D) F a29 (frzs (frz true 0 (bif AV.nors args then [] else h) 8) args) (AV.nors args) (hglb h 3):=evV_frozen rfl
theorem llaw10_SameL0 (D:Nat)(hD:4≤D)(F:Nat)(v0:List Cpx)(v1:List S57)(K:AE→AS→Option Res):∀ (f:Nat) (v2:Int) (s:AS),s.keep [0,1,5] []=some ⟨[(0,.vs v0.length .unk (enc Cpx.cells v0)),(1,.vs v1.length .unk (enc S57.cs v1)),(5,.i .i64 v2)],[],[(1,tab64)],3⟩→
 evLoop (evC (OV F D) 3 F a9L0) f s K=match Plaw10_SameL0 v0 v1 f v2 with|none=>none|some (.inl _)=>K .ret ⟨[(4,.b false)],[],[(1,tab64)],3⟩|some (.inr _)=>K (.ex 0) ⟨[],[],[(1,tab64)],3⟩:=by
 obtain ⟨D,rfl⟩:=dex hD
 have claw03_Is0:=elaw03_Is (D+3) (by omega) F
 intro f
 induction f with
 |zero=>intro v2 s hs;simp only [evLoop,Plaw10_SameL0]
 |succ f ih=>
 intro v2 s hs
 obtain ⟨k0,hk,hn,he,hr⟩:=@lk_all (OV F (D+4)) 3 F a9L0 f K
 rw [loop_succ,hk,a9L0,runC_cut,hs]
 clear hs
 simp only [Plaw10_SameL0]
 clear hk
 by_cases h1:v2<(v0.length:Int)
 rcases ixo (@pk_Cpx_cells v0 v2) with h2|⟨x1,h2⟩
 rotate_left
 rcases ixo (@pk_S57_cs v1 v2) with h3|⟨x2,h3⟩
 rotate_left
 rcases h4:(Plaw03_Is x1.re x1.im x2.f_Re x2.f_Im) with _|r3
 rotate_left
 rcases h5:(r3) with _|_
 all_goals simp -implicitDefEqProofs (maxSteps:=4000000) only [*,-ih,vlaw03_Is,EVA.down,ne_eq,seval]
 all_goals exact ih _ _ (by simp only [*,-ih,vlaw03_Is,EVA.down,ne_eq,seval])
theorem elaw10_Same (D:Nat)(hD:4≤D)(F:Nat)(a0:List Cpx)(a1:List S57)(q:Bool):evW 3 (OV F D) F a9 (some [.vs a0.length .unk (enc Cpx.cells a0),.vs a1.length .unk (enc S57.cs a1)]) q G0 =
 match Plaw10_Same F a0 a1 with|none=>none|some r0=>some (.b r0,none):=by
 obtain ⟨D,rfl⟩:=dex hD
 rw [evW_some,G0]
 simp only [Plaw10_Same]
 by_cases h1:(a0.length:Int)=(a1.length:Int)
 replace h1:=eq_true h1
 simp -implicitDefEqProofs (maxSteps:=4000000) only [*,a9,runC_loop,EVA.down,ne_eq,seval]
 rw [llaw10_SameL0 (D+4) (by omega) F a0 a1 _ F 0 _ (by simp only [*,a9,EVA.down,ne_eq,seval];try rfl)]
 rcases h2:(Plaw10_SameL0 a0 a1 F 0) with _|(_|_)
 all_goals simp -implicitDefEqProofs (maxSteps:=4000000) only [*,a9,EVA.down,ne_eq,seval]
theorem vlaw10_Same {D F n:Nat}{args:List AV}{h:AHeap}:OV F (D+1) 9 args h n (n+1)=evW 3 (OV F D) F a9 (frzs (frz true 0 (bif AV.nors args then [] else h) 8) args) (AV.nors args) (hglb h 3):=evV_frozen rfl
theorem eref02_Same (D:Nat)(hD:0≤D)(F:Nat)(a0 a1:BitVec 64)(q:Bool):evW 3 (OV F D) F a10 (some [.f .f64 (a0).toNat,.f .f64 (a1).toNat]) q G0 =
 some (.b ((Pref02_Same a0 a1)),none):=by
 rw [evW_some,G0]
 skip
 all_goals simp -implicitDefEqProofs only [*,a10,Pref02_Same,k30,EVA.down,ne_eq,seval]
theorem vref02_Same {D F n:Nat}{args:List AV}{h:AHeap}:OV F (D+1) 10 args h n (n+1)=evW 3 (OV F D) F a10 (frzs (frz true 0 (bif AV.nors args then [] else h) 8) args) (AV.nors args) (hglb h 3):=evV_frozen rfl
theorem llaw22_floatsL0 (D:Nat)(hD:1≤D)(F:Nat)(v0 v1:List (BitVec 64))(K:AE→AS→Option Res):∀ (f:Nat) (v2:Int) (s:AS),s.keep [0,1,5] []=some ⟨[(0,.vs v0.length .unk (enc c34 v0)),(1,.vs v1.length .unk (enc c34 v1)),(5,.i .i64 v2)],[],[(1,tab64)],3⟩→
 evLoop (evC (OV F D) 3 F a11L0) f s K=match Plaw22_floatsL0 v0 v1 f v2 with|none=>none|some (.inl _)=>K .ret ⟨[(4,.b false)],[],[(1,tab64)],3⟩|some (.inr _)=>K (.ex 0) ⟨[],[],[(1,tab64)],3⟩:=by
 obtain ⟨D,rfl⟩:=dex hD
 have cref02_Same0:=eref02_Same (D) (by omega) F
 intro f
 induction f with
 |zero=>intro v2 s hs;simp only [evLoop,Plaw22_floatsL0]
 |succ f ih=>
 intro v2 s hs
 obtain ⟨k0,hk,hn,he,hr⟩:=@lk_all (OV F (D+1)) 3 F a11L0 f K
 rw [loop_succ,hk,a11L0,runC_cut,hs]
 clear hs
 simp only [Plaw22_floatsL0]
 clear hk
 by_cases h1:v2<(v0.length:Int)
 rcases ixo (@pk_c34 v0 v2) with h2|⟨x1,h2⟩
 rotate_left
 rcases ixo (@pk_c34 v1 v2) with h3|⟨x2,h3⟩
 rotate_left
 rcases h4:((Pref02_Same x1 x2)) with _|_
 all_goals simp -implicitDefEqProofs (maxSteps:=4000000) only [*,-ih,vref02_Same,EVA.down,ne_eq,seval]
 all_goals exact ih _ _ (by simp only [*,-ih,vref02_Same,EVA.down,ne_eq,seval])
theorem elaw22_floats (D:Nat)(hD:1≤D)(F:Nat)(a0 a1:List (BitVec 64))(q:Bool):evW 3 (OV F D) F a11 (some [.vs a0.length .unk (enc c34 a0),.vs a1.length .unk (enc c34 a1)]) q G0 =
 match Plaw22_floats F a0 a1 with|none=>none|some r0=>some (.b r0,none):=by
 obtain ⟨D,rfl⟩:=dex hD
 rw [evW_some,G0]
 simp only [Plaw22_floats]
 by_cases h1:(a0.length:Int)=(a1.length:Int)
 replace h1:=eq_true h1
 simp -implicitDefEqProofs (maxSteps:=4000000) only [*,a11,runC_loop,EVA.down,ne_eq,seval]
 rw [llaw22_floatsL0 (D+1) (by omega) F a0 a1 _ F 0 _ (by simp only [*,a11,EVA.down,ne_eq,seval];try rfl)]
 rcases h2:(Plaw22_floatsL0 a0 a1 F 0) with _|(_|_)
 all_goals simp -implicitDefEqProofs (maxSteps:=4000000) only [*,a11,EVA.down,ne_eq,seval]
theorem vlaw22_floats {D F n:Nat}{args:List AV}{h:AHeap}:OV F (D+1) 11 args h n (n+1)=evW 3 (OV F D) F a11 (frzs (frz true 0 (bif AV.nors args then [] else h) 8) args) (AV.nors args) (hglb h 3):=evV_frozen rfl
end Go.Proofs.YtlgmimclpmolmaaDoor.Ab
