/- Functions of the program as plain functions, and that the abstract machine's evaluation comes to them. Written by G.py. No condition. -/
import Derived.Test.YtlgmimclpmolmaaGreatDoorHd
set_option maxRecDepth 100000
set_option maxHeartbeats 4000000
set_option linter.unusedVariables false
set_option linter.unusedSimpArgs false
namespace Go.Proofs.YtlgmimclpmolmaaGreatDoor.Ab
open Go
theorem len_Pl_cells:∀ x,(Pl.cells x).length=4:=fun _=>rfl
theorem nors_Pl_cells (x:Pl):AV.nors (Pl.cells x)=true:=by simp only [Pl.cells,AV.nors,AV.nor,Bool.and_self]
theorem one_Pl_cells (x:Pl):(Pl.cells x).all AV.one=true:=by simp only [Pl.cells,List.all_cons,List.all_nil,AV.one,Bool.and_self]
theorem flat_Pl_cells (x:Pl):(Pl.cells x).all AV.flat1=true:=by simp only [Pl.cells,List.all_cons,List.all_nil,AV.flat1,Bool.and_self]
theorem encnors_Pl_cells (l:List Pl):AV.nors (enc Pl.cells l)=true:=enc_nors nors_Pl_cells l
theorem enclen_Pl_cells (l:List Pl):(enc Pl.cells l).length=l.length*4:=enc_len len_Pl_cells l
theorem encone_Pl_cells (l:List Pl):(enc Pl.cells l).all AV.one=true:=enc_all one_Pl_cells l
theorem encall_Pl_cells (l:List Pl):(enc Pl.cells l).all AV.flat1=true:=enc_all flat_Pl_cells l
theorem flatt_Pl_cells (x:Pl):(Pl.cells x).all AV.flat2=true:=by simp only [Pl.cells,List.all_cons,List.all_nil,AV.flat2,Bool.and_self]
theorem encflat_Pl_cells {q:Bool}{b:Nat}{h:AHeap}{f:Nat}(l:List Pl):frzs (frz q b h (f+1)) (enc Pl.cells l)=some (enc Pl.cells l):=frzs_flat2 (enc_all flatt_Pl_cells l)
theorem enctake_Pl_cells (l:List Pl):(enc Pl.cells l).take (l.length*4)=enc Pl.cells l:=by simpa only [Nat.mul_one] using enc_take len_Pl_cells l
theorem encids_Pl_cells {b:Nat}{l:List Nat}(m:List Pl):AV.idss b (enc Pl.cells m) l=l:=idss_nors (encnors_Pl_cells m)
theorem encren_Pl_cells {b c:Nat}{l:List Nat}(m:List Pl):AV.rens b c l (enc Pl.cells m)=some (enc Pl.cells m):=rens_id (encnors_Pl_cells m)
theorem encold_Pl_cells {b:Nat}(m:List Pl):AV.olds b (enc Pl.cells m)=true:=olds_nors (encnors_Pl_cells m)
theorem encpart_Pl_cells (l:List Pl)(k:Nat):(enc Pl.cells l).take (k*4)=enc Pl.cells (l.take k):=by simpa only [Nat.mul_one] using enc_takew len_Pl_cells l k
theorem encdrop_Pl_cells (l:List Pl)(k:Nat):(enc Pl.cells l).drop (k*4)=enc Pl.cells (l.drop k):=by simpa only [Nat.mul_one] using enc_dropw len_Pl_cells l k
theorem pk_Pl_cells {l:List Pl}{j:Int}{x:Pl}(h:idx l j=some x):idx l j=some x∧inb j l.length=true∧apart_ ((enc Pl.cells l).drop (j.toNat*4)) 0 (some 4)=some (.agg (Pl.cells x))∧apart_ ((enc Pl.cells l).drop (j.toNat*4)) 0 none=(Pl.cells x)[0]?∧apart_ (((enc Pl.cells l).drop (j.toNat*4)).drop 1) 0 none=(Pl.cells x)[1]?∧apart_ (((enc Pl.cells l).drop (j.toNat*4)).drop 2) 0 none=(Pl.cells x)[2]?∧apart_ (((enc Pl.cells l).drop (j.toNat*4)).drop 3) 0 none=(Pl.cells x)[3]?∧apart_ (enc Pl.cells l) (j.toNat*4) (some 4)=some (.agg (Pl.cells x))∧apart_ (enc Pl.cells l) (j.toNat*4) none=(Pl.cells x)[0]?∧apart_ (enc Pl.cells l) (j.toNat*4+1) none=(Pl.cells x)[1]?∧apart_ (enc Pl.cells l) (j.toNat*4+2) none=(Pl.cells x)[2]?∧apart_ (enc Pl.cells l) (j.toNat*4+3) none=(Pl.cells x)[3]?:=⟨h,idx_inb h,vp_row len_Pl_cells h,vp_cell0 len_Pl_cells h (by decide),vp_cell (k:=1) len_Pl_cells h (by decide),vp_cell (k:=2) len_Pl_cells h (by decide),vp_cell (k:=3) len_Pl_cells h (by decide),own_row len_Pl_cells h,own_cell0 len_Pl_cells h (by decide),own_cell (k:=1) len_Pl_cells h (by decide),own_cell (k:=2) len_Pl_cells h (by decide),own_cell (k:=3) len_Pl_cells h (by decide)⟩
def c3 (x:Int):List AV:=[.i .i64 x]
theorem len_c3:∀ x,(c3 x).length=1:=fun _=>rfl
theorem nors_c3 (x:Int):AV.nors (c3 x)=true:=by simp only [c3,AV.nors,AV.nor,Bool.and_self,encnors_Pl_cells]
theorem one_c3 (x:Int):(c3 x).all AV.one=true:=by simp only [c3,List.all_cons,List.all_nil,AV.one,Bool.and_self]
theorem flat_c3 (x:Int):(c3 x).all AV.flat1=true:=by simp only [c3,List.all_cons,List.all_nil,AV.flat1,Bool.and_self]
theorem encnors_c3 (l:List Int):AV.nors (enc c3 l)=true:=enc_nors nors_c3 l
theorem enclen_c3 (l:List Int):(enc c3 l).length=l.length*1:=enc_len len_c3 l
theorem encone_c3 (l:List Int):(enc c3 l).all AV.one=true:=enc_all one_c3 l
theorem encall_c3 (l:List Int):(enc c3 l).all AV.flat1=true:=enc_all flat_c3 l
theorem flatt_c3 (x:Int):(c3 x).all AV.flat2=true:=by simp only [c3,List.all_cons,List.all_nil,AV.flat2,Bool.and_self]
theorem encflat_c3 {q:Bool}{b:Nat}{h:AHeap}{f:Nat}(l:List Int):frzs (frz q b h (f+1)) (enc c3 l)=some (enc c3 l):=frzs_flat2 (enc_all flatt_c3 l)
theorem enctake_c3 (l:List Int):(enc c3 l).take l.length=enc c3 l:=by simpa only [Nat.mul_one] using enc_take len_c3 l
theorem encids_c3 {b:Nat}{l:List Nat}(m:List Int):AV.idss b (enc c3 m) l=l:=idss_nors (encnors_c3 m)
theorem encren_c3 {b c:Nat}{l:List Nat}(m:List Int):AV.rens b c l (enc c3 m)=some (enc c3 m):=rens_id (encnors_c3 m)
theorem encold_c3 {b:Nat}(m:List Int):AV.olds b (enc c3 m)=true:=olds_nors (encnors_c3 m)
theorem encpart_c3 (l:List Int)(k:Nat):(enc c3 l).take k=enc c3 (l.take k):=by simpa only [Nat.mul_one] using enc_takew len_c3 l k
theorem encdrop_c3 (l:List Int)(k:Nat):(enc c3 l).drop k=enc c3 (l.drop k):=by simpa only [Nat.mul_one] using enc_dropw len_c3 l k
theorem pk_c3 {l:List Int}{j:Int}{x:Int}(h:idx l j=some x):idx l j=some x∧inb j l.length=true∧apart_ ((enc c3 l).drop j.toNat) 0 none=(c3 x)[0]?∧apart_ (enc c3 l) j.toNat none=(c3 x)[0]?:=⟨h,idx_inb h,vp_one len_c3 h,own_one len_c3 h⟩
def S49.cs (p:S49):List AV:=[.i .i64 p.f_Kind,.i .i64 p.f_Gate,.vs (p.f_Qubits.length) .unk (enc c3 p.f_Qubits),.i .i64 p.f_Bit,.i .i64 p.f_If,.i .i64 p.f_When]
theorem len_S49_cs:∀ x,(S49.cs x).length=6:=fun _=>rfl
theorem nors_S49_cs (x:S49):AV.nors (S49.cs x)=true:=by simp only [S49.cs,AV.nors,AV.nor,Bool.and_self,encnors_Pl_cells,encnors_c3]
theorem one_S49_cs (x:S49):(S49.cs x).all AV.one=true:=by simp only [S49.cs,List.all_cons,List.all_nil,AV.one,Bool.and_self]
theorem flat_S49_cs (x:S49):(S49.cs x).all AV.flat1=true:=by simp only [S49.cs,List.all_cons,List.all_nil,AV.flat1,Bool.and_self]
theorem encnors_S49_cs (l:List S49):AV.nors (enc S49.cs l)=true:=enc_nors nors_S49_cs l
theorem enclen_S49_cs (l:List S49):(enc S49.cs l).length=l.length*6:=enc_len len_S49_cs l
theorem encone_S49_cs (l:List S49):(enc S49.cs l).all AV.one=true:=enc_all one_S49_cs l
theorem encall_S49_cs (l:List S49):(enc S49.cs l).all AV.flat1=true:=enc_all flat_S49_cs l
theorem encflat_S49_cs {b:Nat}{h:AHeap}{f:Nat}(l:List S49):frzs (frz true b h (f+1)) (enc S49.cs l)=some (enc S49.cs l):=frzs_flat (enc_all flat_S49_cs l)
theorem enctake_S49_cs (l:List S49):(enc S49.cs l).take (l.length*6)=enc S49.cs l:=by simpa only [Nat.mul_one] using enc_take len_S49_cs l
theorem encids_S49_cs {b:Nat}{l:List Nat}(m:List S49):AV.idss b (enc S49.cs m) l=l:=idss_nors (encnors_S49_cs m)
theorem encren_S49_cs {b c:Nat}{l:List Nat}(m:List S49):AV.rens b c l (enc S49.cs m)=some (enc S49.cs m):=rens_id (encnors_S49_cs m)
theorem encold_S49_cs {b:Nat}(m:List S49):AV.olds b (enc S49.cs m)=true:=olds_nors (encnors_S49_cs m)
theorem encpart_S49_cs (l:List S49)(k:Nat):(enc S49.cs l).take (k*6)=enc S49.cs (l.take k):=by simpa only [Nat.mul_one] using enc_takew len_S49_cs l k
theorem encdrop_S49_cs (l:List S49)(k:Nat):(enc S49.cs l).drop (k*6)=enc S49.cs (l.drop k):=by simpa only [Nat.mul_one] using enc_dropw len_S49_cs l k
theorem pk_S49_cs {l:List S49}{j:Int}{x:S49}(h:idx l j=some x):idx l j=some x∧inb j l.length=true∧apart_ ((enc S49.cs l).drop (j.toNat*6)) 0 (some 6)=some (.agg (S49.cs x))∧apart_ ((enc S49.cs l).drop (j.toNat*6)) 0 none=(S49.cs x)[0]?∧apart_ (((enc S49.cs l).drop (j.toNat*6)).drop 1) 0 none=(S49.cs x)[1]?∧apart_ (((enc S49.cs l).drop (j.toNat*6)).drop 2) 0 none=(S49.cs x)[2]?∧apart_ (((enc S49.cs l).drop (j.toNat*6)).drop 3) 0 none=(S49.cs x)[3]?∧apart_ (((enc S49.cs l).drop (j.toNat*6)).drop 4) 0 none=(S49.cs x)[4]?∧apart_ (((enc S49.cs l).drop (j.toNat*6)).drop 5) 0 none=(S49.cs x)[5]?∧apart_ (enc S49.cs l) (j.toNat*6) (some 6)=some (.agg (S49.cs x))∧apart_ (enc S49.cs l) (j.toNat*6) none=(S49.cs x)[0]?∧apart_ (enc S49.cs l) (j.toNat*6+1) none=(S49.cs x)[1]?∧apart_ (enc S49.cs l) (j.toNat*6+2) none=(S49.cs x)[2]?∧apart_ (enc S49.cs l) (j.toNat*6+3) none=(S49.cs x)[3]?∧apart_ (enc S49.cs l) (j.toNat*6+4) none=(S49.cs x)[4]?∧apart_ (enc S49.cs l) (j.toNat*6+5) none=(S49.cs x)[5]?:=⟨h,idx_inb h,vp_row len_S49_cs h,vp_cell0 len_S49_cs h (by decide),vp_cell (k:=1) len_S49_cs h (by decide),vp_cell (k:=2) len_S49_cs h (by decide),vp_cell (k:=3) len_S49_cs h (by decide),vp_cell (k:=4) len_S49_cs h (by decide),vp_cell (k:=5) len_S49_cs h (by decide),own_row len_S49_cs h,own_cell0 len_S49_cs h (by decide),own_cell (k:=1) len_S49_cs h (by decide),own_cell (k:=2) len_S49_cs h (by decide),own_cell (k:=3) len_S49_cs h (by decide),own_cell (k:=4) len_S49_cs h (by decide),own_cell (k:=5) len_S49_cs h (by decide)⟩
def c9 (x:ByteArray):List AV:=[.s x]
theorem len_c9:∀ x,(c9 x).length=1:=fun _=>rfl
theorem nors_c9 (x:ByteArray):AV.nors (c9 x)=true:=by simp only [c9,AV.nors,AV.nor,Bool.and_self,encnors_Pl_cells,encnors_c3,encnors_S49_cs]
theorem one_c9 (x:ByteArray):(c9 x).all AV.one=true:=by simp only [c9,List.all_cons,List.all_nil,AV.one,Bool.and_self]
theorem flat_c9 (x:ByteArray):(c9 x).all AV.flat1=true:=by simp only [c9,List.all_cons,List.all_nil,AV.flat1,Bool.and_self]
theorem encnors_c9 (l:List ByteArray):AV.nors (enc c9 l)=true:=enc_nors nors_c9 l
theorem enclen_c9 (l:List ByteArray):(enc c9 l).length=l.length*1:=enc_len len_c9 l
theorem encone_c9 (l:List ByteArray):(enc c9 l).all AV.one=true:=enc_all one_c9 l
theorem encall_c9 (l:List ByteArray):(enc c9 l).all AV.flat1=true:=enc_all flat_c9 l
theorem flatt_c9 (x:ByteArray):(c9 x).all AV.flat2=true:=by simp only [c9,List.all_cons,List.all_nil,AV.flat2,Bool.and_self]
theorem encflat_c9 {q:Bool}{b:Nat}{h:AHeap}{f:Nat}(l:List ByteArray):frzs (frz q b h (f+1)) (enc c9 l)=some (enc c9 l):=frzs_flat2 (enc_all flatt_c9 l)
theorem enctake_c9 (l:List ByteArray):(enc c9 l).take l.length=enc c9 l:=by simpa only [Nat.mul_one] using enc_take len_c9 l
theorem encids_c9 {b:Nat}{l:List Nat}(m:List ByteArray):AV.idss b (enc c9 m) l=l:=idss_nors (encnors_c9 m)
theorem encren_c9 {b c:Nat}{l:List Nat}(m:List ByteArray):AV.rens b c l (enc c9 m)=some (enc c9 m):=rens_id (encnors_c9 m)
theorem encold_c9 {b:Nat}(m:List ByteArray):AV.olds b (enc c9 m)=true:=olds_nors (encnors_c9 m)
theorem encpart_c9 (l:List ByteArray)(k:Nat):(enc c9 l).take k=enc c9 (l.take k):=by simpa only [Nat.mul_one] using enc_takew len_c9 l k
theorem encdrop_c9 (l:List ByteArray)(k:Nat):(enc c9 l).drop k=enc c9 (l.drop k):=by simpa only [Nat.mul_one] using enc_dropw len_c9 l k
theorem pk_c9 {l:List ByteArray}{j:Int}{x:ByteArray}(h:idx l j=some x):idx l j=some x∧inb j l.length=true∧apart_ ((enc c9 l).drop j.toNat) 0 none=(c9 x)[0]?∧apart_ (enc c9 l) j.toNat none=(c9 x)[0]?:=⟨h,idx_inb h,vp_one len_c9 h,own_one len_c9 h⟩
theorem ixo {α:Type}{l:List α}{j:Int}{p:α→Prop}(h:∀ {x},idx l j=some x→p x):(idx l j=none∧inb j l.length=false)∨∃ x,p x:=(Option.eq_none_or_eq_some (idx l j)).elim (fun e=>.inl (pkn e)) (fun ⟨x,e⟩=>.inr ⟨x,h e⟩)
theorem dex {k D:Nat}(h:k≤D):∃ E,D=E+k:=⟨D-k,by omega⟩
def EVE:=PLift.up <| And.intro @oM.eq_1 <| And.intro @oL.eq_1 <| And.intro @oJ.eq_1 <| And.intro @oF.eq_1 <| And.intro @oS.eq_1 <| And.intro @oA.eq_1 <| And.intro @oP.eq_1 <| And.intro @oE.eq_1 <| And.intro @oB.eq_1 <| And.intro @oQ.eq_1 <| And.intro @oN.eq_1 <| And.intro @oT.eq_1 <| And.intro @oU.eq_1 <| And.intro @oG.eq_1 <| And.intro @oI.eq_1 <| And.intro @oC.eq_1 <| And.intro @oX.eq_1 <| And.intro @oY.eq_1 <| And.intro @gf.eq_1 <| And.intro @gt.eq_1 <| And.intro @Pl.cells.eq_1 (And.intro @encnors_Pl_cells (And.intro @enclen_Pl_cells (And.intro @encone_Pl_cells (And.intro @encall_Pl_cells (And.intro @encflat_Pl_cells (And.intro @enctake_Pl_cells (And.intro @encids_Pl_cells (And.intro @encren_Pl_cells (And.intro @encold_Pl_cells (And.intro @encpart_Pl_cells (And.intro @c3.eq_1 (And.intro @encnors_c3 (And.intro @enclen_c3 (And.intro @encone_c3 (And.intro @encall_c3 (And.intro @encflat_c3 (And.intro @enctake_c3 (And.intro @encids_c3 (And.intro @encren_c3 (And.intro @encold_c3 (And.intro @encpart_c3 (And.intro @S49.cs.eq_1 (And.intro @encnors_S49_cs (And.intro @enclen_S49_cs (And.intro @encone_S49_cs (And.intro @encall_S49_cs (And.intro @encflat_S49_cs (And.intro @enctake_S49_cs (And.intro @encids_S49_cs (And.intro @encren_S49_cs (And.intro @encold_S49_cs (And.intro @encpart_S49_cs (And.intro @c9.eq_1 (And.intro @encnors_c9 (And.intro @enclen_c9 (And.intro @encone_c9 (And.intro @encall_c9 (And.intro @encflat_c9 (And.intro @enctake_c9 (And.intro @encids_c9 (And.intro @encren_c9 (And.intro @encold_c9 @encpart_c9))))))))))))))))))))))))))))))))))))))))))
def EVA:=PLift.up <| And.intro EV0.down <| And.intro EV1.down <| And.intro EV2.down <| And.intro EV3.down <| And.intro EV4.down <| And.intro EV5.down <| And.intro EV6.down <| And.intro EV7.down <| And.intro EVK.down <| And.intro EVN.down <| And.intro EVE.down @kont_ret
theorem egate_table (D:Nat)(hD:0≤D)(F:Nat)  (q:Bool):evW 3 (OV F D) F a94 (some []) q G0 =
 match Pgate_table with|(r0,r1,r2,r3,r4,r5,r6,r7,r8,r9,r10,r11,r12,r13,r14,r15,r16,r17,r18,r19,r20,r21,r22,r23,r24,r25,r26,r27,r28,r29,r30,r31,r32,r33,r34,r35,r36,r37,r38,r39,r40,r41,r42,r43,r44,r45,r46,r47,r48,r49,r50,r51,r52,r53,r54,r55,r56,r57,r58,r59,r60,r61,r62,r63,r64,r65,r66,r67,r68,r69,r70,r71,r72,r73,r74,r75,r76,r77,r78,r79,r80,r81,r82,r83)=>some (.agg [.s r0,.i .i64 r1,.i .i64 r2,.i .i64 r3,.s r4,.i .i64 r5,.i .i64 r6,.i .i64 r7,.s r8,.i .i64 r9,.i .i64 r10,.i .i64 r11,.s r12,.i .i64 r13,.i .i64 r14,.i .i64 r15,.s r16,.i .i64 r17,.i .i64 r18,.i .i64 r19,.s r20,.i .i64 r21,.i .i64 r22,.i .i64 r23,.s r24,.i .i64 r25,.i .i64 r26,.i .i64 r27,.s r28,.i .i64 r29,.i .i64 r30,.i .i64 r31,.s r32,.i .i64 r33,.i .i64 r34,.i .i64 r35,.s r36,.i .i64 r37,.i .i64 r38,.i .i64 r39,.s r40,.i .i64 r41,.i .i64 r42,.i .i64 r43,.s r44,.i .i64 r45,.i .i64 r46,.i .i64 r47,.s r48,.i .i64 r49,.i .i64 r50,.i .i64 r51,.s r52,.i .i64 r53,.i .i64 r54,.i .i64 r55,.s r56,.i .i64 r57,.i .i64 r58,.i .i64 r59,.s r60,.i .i64 r61,.i .i64 r62,.i .i64 r63,.s r64,.i .i64 r65,.i .i64 r66,.i .i64 r67,.s r68,.i .i64 r69,.i .i64 r70,.i .i64 r71,.s r72,.i .i64 r73,.i .i64 r74,.i .i64 r75,.s r76,.i .i64 r77,.i .i64 r78,.i .i64 r79,.s r80,.i .i64 r81,.i .i64 r82,.i .i64 r83],none):=by
 rw [evW_some,G0]
 skip
 all_goals simp -implicitDefEqProofs only [*,a94,Pgate_table,EVA.down,ne_eq,seval]
theorem vgate_table {D F n:Nat}{args:List AV}{h:AHeap}:OV F (D+1) 94 args h n (n+1)=evW 3 (OV F D) F a94 (frzs (frz true 0 (bif AV.nors args then [] else h) 8) args) (AV.nors args) (hglb h 3):=evV_frozen rfl
theorem egate_of (D:Nat)(hD:1≤D)(F:Nat)(a0:Int)(q:Bool):evW 3 (OV F D) F a65 (some [.i .i64 a0]) q G0 =
 match Pgate_of a0 with|none=>none|some (r0,r1,r2,r3)=>some (.agg [.s r0,.i .i64 r1,.i .i64 r2,.i .i64 r3],none):=by
 obtain ⟨D,rfl⟩:=dex hD
 have cgate_table0:=egate_table (D) (by omega) F
 rw [evW_some,G0]
 simp only [Pgate_of]
 by_cases h1:a0<1
 rotate_left
 by_cases h2:a0>20
 rotate_left
 rcases h3:(Pgate_table) with ⟨r1,r2,r3,r4,r5,r6,r7,r8,r9,r10,r11,r12,r13,r14,r15,r16,r17,r18,r19,r20,r21,r22,r23,r24,r25,r26,r27,r28,r29,r30,r31,r32,r33,r34,r35,r36,r37,r38,r39,r40,r41,r42,r43,r44,r45,r46,r47,r48,r49,r50,r51,r52,r53,r54,r55,r56,r57,r58,r59,r60,r61,r62,r63,r64,r65,r66,r67,r68,r69,r70,r71,r72,r73,r74,r75,r76,r77,r78,r79,r80,r81,r82,r83,r84⟩
 by_cases h4:a0=0
 replace h4:=eq_true h4
 have h5:inb a0 21=true:=by rw [(of_eq_true h4)];decide
 have h6:Int.toNat a0=0:=by rw [(of_eq_true h4)];rfl
 rotate_left
 by_cases h7:a0=1
 replace h7:=eq_true h7
 have h8:inb a0 21=true:=by rw [(of_eq_true h7)];decide
 have h9:Int.toNat a0=1:=by rw [(of_eq_true h7)];rfl
 rotate_left
 by_cases h10:a0=2
 replace h10:=eq_true h10
 have h11:inb a0 21=true:=by rw [(of_eq_true h10)];decide
 have h12:Int.toNat a0=2:=by rw [(of_eq_true h10)];rfl
 rotate_left
 by_cases h13:a0=3
 replace h13:=eq_true h13
 have h14:inb a0 21=true:=by rw [(of_eq_true h13)];decide
 have h15:Int.toNat a0=3:=by rw [(of_eq_true h13)];rfl
 rotate_left
 by_cases h16:a0=4
 replace h16:=eq_true h16
 have h17:inb a0 21=true:=by rw [(of_eq_true h16)];decide
 have h18:Int.toNat a0=4:=by rw [(of_eq_true h16)];rfl
 rotate_left
 by_cases h19:a0=5
 replace h19:=eq_true h19
 have h20:inb a0 21=true:=by rw [(of_eq_true h19)];decide
 have h21:Int.toNat a0=5:=by rw [(of_eq_true h19)];rfl
 rotate_left
 by_cases h22:a0=6
 replace h22:=eq_true h22
 have h23:inb a0 21=true:=by rw [(of_eq_true h22)];decide
 have h24:Int.toNat a0=6:=by rw [(of_eq_true h22)];rfl
 rotate_left
 by_cases h25:a0=7
 replace h25:=eq_true h25
 have h26:inb a0 21=true:=by rw [(of_eq_true h25)];decide
 have h27:Int.toNat a0=7:=by rw [(of_eq_true h25)];rfl
 rotate_left
 by_cases h28:a0=8
 replace h28:=eq_true h28
 have h29:inb a0 21=true:=by rw [(of_eq_true h28)];decide
 have h30:Int.toNat a0=8:=by rw [(of_eq_true h28)];rfl
 rotate_left
 by_cases h31:a0=9
 replace h31:=eq_true h31
 have h32:inb a0 21=true:=by rw [(of_eq_true h31)];decide
 have h33:Int.toNat a0=9:=by rw [(of_eq_true h31)];rfl
 rotate_left
 by_cases h34:a0=10
 replace h34:=eq_true h34
 have h35:inb a0 21=true:=by rw [(of_eq_true h34)];decide
 have h36:Int.toNat a0=10:=by rw [(of_eq_true h34)];rfl
 rotate_left
 by_cases h37:a0=11
 replace h37:=eq_true h37
 have h38:inb a0 21=true:=by rw [(of_eq_true h37)];decide
 have h39:Int.toNat a0=11:=by rw [(of_eq_true h37)];rfl
 rotate_left
 by_cases h40:a0=12
 replace h40:=eq_true h40
 have h41:inb a0 21=true:=by rw [(of_eq_true h40)];decide
 have h42:Int.toNat a0=12:=by rw [(of_eq_true h40)];rfl
 rotate_left
 by_cases h43:a0=13
 replace h43:=eq_true h43
 have h44:inb a0 21=true:=by rw [(of_eq_true h43)];decide
 have h45:Int.toNat a0=13:=by rw [(of_eq_true h43)];rfl
 rotate_left
 by_cases h46:a0=14
 replace h46:=eq_true h46
 have h47:inb a0 21=true:=by rw [(of_eq_true h46)];decide
 have h48:Int.toNat a0=14:=by rw [(of_eq_true h46)];rfl
 rotate_left
 by_cases h49:a0=15
 replace h49:=eq_true h49
 have h50:inb a0 21=true:=by rw [(of_eq_true h49)];decide
 have h51:Int.toNat a0=15:=by rw [(of_eq_true h49)];rfl
 rotate_left
 by_cases h52:a0=16
 replace h52:=eq_true h52
 have h53:inb a0 21=true:=by rw [(of_eq_true h52)];decide
 have h54:Int.toNat a0=16:=by rw [(of_eq_true h52)];rfl
 rotate_left
 by_cases h55:a0=17
 replace h55:=eq_true h55
 have h56:inb a0 21=true:=by rw [(of_eq_true h55)];decide
 have h57:Int.toNat a0=17:=by rw [(of_eq_true h55)];rfl
 rotate_left
 by_cases h58:a0=18
 replace h58:=eq_true h58
 have h59:inb a0 21=true:=by rw [(of_eq_true h58)];decide
 have h60:Int.toNat a0=18:=by rw [(of_eq_true h58)];rfl
 rotate_left
 by_cases h61:a0=19
 replace h61:=eq_true h61
 have h62:inb a0 21=true:=by rw [(of_eq_true h61)];decide
 have h63:Int.toNat a0=19:=by rw [(of_eq_true h61)];rfl
 rotate_left
 by_cases h64:a0=20
 replace h64:=eq_true h64
 have h65:inb a0 21=true:=by rw [(of_eq_true h64)];decide
 have h66:Int.toNat a0=20:=by rw [(of_eq_true h64)];rfl
 rotate_left
 have h67:inb a0 21=false:=by simp only [inb,Bool.and_eq_false_iff,decide_eq_false_iff_not];omega
 all_goals simp -implicitDefEqProofs only [*,a65,vgate_table,EVA.down,ne_eq,seval]
theorem vgate_of {D F n:Nat}{args:List AV}{h:AHeap}:OV F (D+1) 65 args h n (n+1)=evW 3 (OV F D) F a65 (frzs (frz true 0 (bif AV.nors args then [] else h) 8) args) (AV.nors args) (hglb h 3):=evV_frozen rfl
theorem egate_Arity (D:Nat)(hD:2≤D)(F:Nat)(a0:Int)(q:Bool):evW 3 (OV F D) F a95 (some [.i .i64 a0]) q G0 =
 match Pgate_Arity a0 with|none=>none|some r0=>some (.i .i64 r0,none):=by
 obtain ⟨D,rfl⟩:=dex hD
 have cgate_of0:=egate_of (D+1) (by omega) F
 rw [evW_some,G0]
 simp only [Pgate_Arity]
 rcases h1:(Pgate_of a0) with _|⟨r1,r2,r3,r4⟩
 all_goals simp -implicitDefEqProofs only [*,a95,vgate_of,EVA.down,ne_eq,seval]
theorem vgate_Arity {D F n:Nat}{args:List AV}{h:AHeap}:OV F (D+1) 95 args h n (n+1)=evW 3 (OV F D) F a95 (frzs (frz true 0 (bif AV.nors args then [] else h) 8) args) (AV.nors args) (hglb h 3):=evV_frozen rfl
theorem lslices_Index_intL0 (D:Nat)(hD:0≤D)(F:Nat)(v0:List Int)(v1 v2:Int)(K:AE→AS→Option Res):∀ (f:Nat) (v3:Int) (s:AS),s.keep [0,1,7,8] []=some ⟨[(0,.vs v0.length .unk (enc c3 v0)),(1,.i .i64 v1),(7,.i .i64 v2),(8,.i .i64 v3)],[],[(1,tab64)],3⟩→
 evLoop (evC (OV F D) 3 F a111L0) f s K=match Pslices_Index_intL0 v0 v1 v2 f v3 with|none=>none|some (.inl y0)=>K .ret ⟨[(4,.i .i64 y0)],[],[(1,tab64)],3⟩|some (.inr _)=>K (.ex 0) ⟨[],[],[(1,tab64)],3⟩:=by
 intro f
 induction f with
 |zero=>intro v3 s hs;simp only [evLoop,Pslices_Index_intL0]
 |succ f ih=>
 intro v3 s hs
 obtain ⟨k0,hk,hn,he,hr⟩:=@lk_all (OV F (D)) 3 F a111L0 f K
 rw [loop_succ,hk,a111L0,runC_cut,hs]
 clear hs
 simp only [Pslices_Index_intL0]
 clear hk
 by_cases h1:v3<v2
 rcases ixo (@pk_c3 v0 v3) with h2|⟨x1,h2⟩
 rotate_left
 by_cases h3:v1=x1
 replace h3:=eq_true h3
 all_goals simp -implicitDefEqProofs only [*,-ih,EVA.down,ne_eq,seval]
 all_goals exact ih _ _ (by simp only [*,-ih,EVA.down,ne_eq,seval])
theorem eslices_Index_int (D:Nat)(hD:0≤D)(F:Nat)(a0:List Int)(a1:Int)(q:Bool):evW 3 (OV F D) F a111 (some [.vs a0.length .unk (enc c3 a0),.i .i64 a1]) q G0 =
 match Pslices_Index_int F a0 a1 with|none=>none|some r0=>some (.i .i64 r0,none):=by
 rw [evW_some,G0]
 simp only [Pslices_Index_int]
 simp -implicitDefEqProofs only [*,a111,runC_loop,EVA.down,ne_eq,seval]
 rw [lslices_Index_intL0 (D) (by omega) F a0 a1 (a0.length:Int) _ F 0 _ (by simp only [*,a111,EVA.down,ne_eq,seval];try rfl)]
 rcases h1:(Pslices_Index_intL0 a0 a1 (a0.length:Int) F 0) with _|(y1|_)
 all_goals simp -implicitDefEqProofs only [*,a111,EVA.down,ne_eq,seval]
theorem vslices_Index_int {D F n:Nat}{args:List AV}{h:AHeap}:OV F (D+1) 111 args h n (n+1)=evW 3 (OV F D) F a111 (frzs (frz true 0 (bif AV.nors args then [] else h) 8) args) (AV.nors args) (hglb h 3):=evV_frozen rfl
theorem eslices_Contains_int (D:Nat)(hD:1≤D)(F:Nat)(a0:List Int)(a1:Int)(q:Bool):evW 3 (OV F D) F a92 (some [.vs a0.length .unk (enc c3 a0),.i .i64 a1]) q G0 =
 match Pslices_Contains_int F a0 a1 with|none=>none|some r0=>some (.b r0,none):=by
 obtain ⟨D,rfl⟩:=dex hD
 have cslices_Index_int0:=eslices_Index_int (D) (by omega) F
 rw [evW_some,G0]
 simp only [Pslices_Contains_int]
 rcases h1:(Pslices_Index_int F a0 a1) with _|r1
 all_goals simp -implicitDefEqProofs only [*,a92,vslices_Index_int,EVA.down,ne_eq,seval]
theorem vslices_Contains_int {D F n:Nat}{args:List AV}{h:AHeap}:OV F (D+1) 92 args h n (n+1)=evW 3 (OV F D) F a92 (frzs (frz true 0 (bif AV.nors args then [] else h) 8) args) (AV.nors args) (hglb h 3):=evV_frozen rfl
theorem lgate_CheckL0 (D:Nat)(hD:2≤D)(F:Nat)(v0:List Int)(v1:Int)(v2:List Int)(v3:Int)(K:AE→AS→Option Res):∀ (f:Nat) (v4:Int) (s:AS),s.keep [1,2,17,18,19] []=some ⟨[(1,.vs v0.length .unk (enc c3 v0)),(2,.i .i64 v1),(17,.vs v2.length .unk (enc c3 v2)),(18,.i .i64 v3),(19,.i .i64 v4)],[],[(1,tab64)],3⟩→
 evLoop (evC (OV F D) 3 F a67L0) f s K=match Pgate_CheckL0 F v0 v1 v2 v3 f v4 with|none=>none|some (.inl _)=>K .ret ⟨[(6,.i .i64 (61))],[],[(1,tab64)],3⟩|some (.inr _)=>K (.ex 0) ⟨[],[],[(1,tab64)],3⟩:=by
 obtain ⟨D,rfl⟩:=dex hD
 have cslices_Contains_int0:=eslices_Contains_int (D+1) (by omega) F
 intro f
 induction f with
 |zero=>intro v4 s hs;simp only [evLoop,Pgate_CheckL0]
 |succ f ih=>
 intro v4 s hs
 obtain ⟨k0,hk,hn,he,hr⟩:=@lk_all (OV F (D+2)) 3 F a67L0 f K
 rw [loop_succ,hk,a67L0,runC_cut,hs]
 clear hs
 simp only [Pgate_CheckL0]
 clear hk
 by_cases h1:v4<v3
 rcases ixo (@pk_c3 v2 v4) with h2|⟨x1,h2⟩
 rotate_left
 by_cases h3:x1<0
 rotate_left
 by_cases h4:x1≥v1
 rotate_left
 by_cases h5:0≤v4∧v4≤(v0.length:Int)
 have h6:∀ cap x,AV.vs v4.toNat cap x=AV.vs (v0.take v4.toNat).length cap x:=by intro cap x;congr 1;simp only [List.length_take,List.length_drop];omega
 rcases h7:(Pslices_Contains_int F (v0.take v4.toNat) x1) with _|r2
 rotate_left
 rcases h8:(r2) with _|_
 all_goals simp -implicitDefEqProofs only [*,-ih,vslices_Contains_int,EVA.down,ne_eq,seval]
 all_goals exact ih _ _ (by simp only [*,-ih,vslices_Contains_int,EVA.down,ne_eq,seval])
theorem egate_Check (D:Nat)(hD:3≤D)(F:Nat)(a0:Int)(a1:List Int)(a2:Int)(q:Bool):evW 3 (OV F D) F a67 (some [.i .i64 a0,.vs a1.length .unk (enc c3 a1),.i .i64 a2]) q G0 =
 match Pgate_Check F a0 a1 a2 with|none=>none|some r0=>some (.i .i64 r0,none):=by
 obtain ⟨D,rfl⟩:=dex hD
 have cgate_Arity0:=egate_Arity (D+2) (by omega) F
 rw [evW_some,G0]
 simp only [Pgate_Check]
 rcases h1:(Pgate_Arity a0) with _|r1
 rotate_left
 by_cases h2:r1=0
 replace h2:=eq_true h2
 rotate_left
 by_cases h3:(a1.length:Int)=r1
 replace h3:=eq_true h3
 simp -implicitDefEqProofs only [*,a67,vgate_Arity,runC_loop,EVA.down,ne_eq,seval]
 rw [lgate_CheckL0 (D+3) (by omega) F a1 a2 a1 (a1.length:Int) _ F 0 _ (by simp only [*,a67,vgate_Arity,EVA.down,ne_eq,seval];try rfl)]
 rcases h4:(Pgate_CheckL0 F a1 a2 a1 (a1.length:Int) F 0) with _|(_|_)
 all_goals simp -implicitDefEqProofs only [*,a67,vgate_Arity,EVA.down,ne_eq,seval]
theorem vgate_Check {D F n:Nat}{args:List AV}{h:AHeap}:OV F (D+1) 67 args h n (n+1)=evW 3 (OV F D) F a67 (frzs (frz true 0 (bif AV.nors args then [] else h) 8) args) (AV.nors args) (hglb h 3):=evV_frozen rfl
theorem lcircuit_mayL0 (D:Nat)(hD:2≤D)(F:Nat)(v0 v1:Int)(v2:List Int)(v3 v5 v6:Int)(v7:List Int)(v8 v9 v10:Int)(K:AE→AS→Option Res):∀ (f:Nat) (v4:Int) (s:AS),s.keep [1,2,3,79,80,81] [3]=some ⟨[(1,.i .i64 v0),(2,.i .i64 v1),(3,.lp 3 0),(79,.vs v2.length .unk (enc c3 v2)),(80,.i .i64 v3),(81,.i .i64 v4)],[(3,[.i .i64 v5,.i .i64 v6,.vs v7.length .unk (enc c3 v7),.i .i64 v8,.i .i64 v9,.i .i64 v10])],[(1,tab64)],3⟩→
 evLoop (evC (OV F D) 3 F a60L0) f s K=match Pcircuit_mayL0 F v0 v1 v2 v3 v5 v6 v7 v8 v9 v10 f v4 with|none=>none|some (.inl _)=>K .ret ⟨[(6,.b false)],[],[(1,tab64)],3⟩|some (.inr _)=>K (.ex 0) ⟨[(2,.i .i64 v1),(3,.lp 3 0)],[(3,[.i .i64 v5,.i .i64 v6,.vs v7.length .unk (enc c3 v7),.i .i64 v8,.i .i64 v9,.i .i64 v10])],[(1,tab64)],3⟩:=by
 obtain ⟨D,rfl⟩:=dex hD
 have cslices_Contains_int0:=eslices_Contains_int (D+1) (by omega) F
 intro f
 induction f with
 |zero=>intro v4 s hs;simp only [evLoop,Pcircuit_mayL0]
 |succ f ih=>
 intro v4 s hs
 obtain ⟨k0,hk,hn,he,hr⟩:=@lk_all (OV F (D+2)) 3 F a60L0 f K
 rw [loop_succ,hk,a60L0,runC_cut,hs]
 clear hs
 simp only [Pcircuit_mayL0]
 clear hk
 by_cases h1:v4<v3
 rcases ixo (@pk_c3 v2 v4) with h2|⟨x1,h2⟩
 rotate_left
 by_cases h3:x1<0
 rotate_left
 by_cases h4:x1≥v0
 rotate_left
 by_cases h5:0≤v4∧v4≤(v7.length:Int)
 have h6:∀ cap x,AV.vs v4.toNat cap x=AV.vs (v7.take v4.toNat).length cap x:=by intro cap x;congr 1;simp only [List.length_take,List.length_drop];omega
 rcases h7:(Pslices_Contains_int F (v7.take v4.toNat) x1) with _|r2
 rotate_left
 rcases h8:(r2) with _|_
 all_goals simp -implicitDefEqProofs only [*,-ih,vslices_Contains_int,EVA.down,ne_eq,seval]
 all_goals exact ih _ _ (by simp only [*,-ih,vslices_Contains_int,EVA.down,ne_eq,seval])
theorem ecircuit_may (D:Nat)(hD:4≤D)(F:Nat)(a0_Kind a0_Gate:Int)(a0_Qubits:List Int)(a0_Bit a0_If a0_When a1 a2:Int)(q:Bool):evW 3 (OV F D) F a60 (some [.agg [.i .i64 a0_Kind,.i .i64 a0_Gate,.vs a0_Qubits.length .unk (enc c3 a0_Qubits),.i .i64 a0_Bit,.i .i64 a0_If,.i .i64 a0_When],.i .i64 a1,.i .i64 a2]) q G0 =
 match Pcircuit_may F a0_Kind a0_Gate a0_Qubits a0_Bit a0_If a0_When a1 a2 with|none=>none|some r0=>some (.b r0,none):=by
 obtain ⟨D,rfl⟩:=dex hD
 have cgate_Check0:=egate_Check (D+3) (by omega) F
 rw [evW_some,G0]
 simp only [Pcircuit_may]
 by_cases h1:a0_Kind=1
 replace h1:=eq_true h1
 by_cases h2:a0_If=(((-1):Int))
 replace h2:=eq_true h2
 by_cases h3:a0_If≥0
 by_cases h4:a0_If<a2
 by_cases h5:a0_When=0
 replace h5:=eq_true h5
 rcases h6:(Pgate_Check F a0_Gate a0_Qubits a1) with _|r1
 rotate_left
 by_cases h7:r1=0
 replace h7:=eq_true h7
 by_cases h8:a0_Bit=0
 replace h8:=eq_true h8
 rotate_left
 rotate_left
 rotate_left
 rcases h9:(Pgate_Check F a0_Gate a0_Qubits a1) with _|r2
 rotate_left
 by_cases h10:r2=0
 replace h10:=eq_true h10
 by_cases h11:a0_Bit=0
 replace h11:=eq_true h11
 rotate_left
 rotate_left
 rotate_left
 rcases h12:(Pgate_Check F a0_Gate a0_Qubits a1) with _|r3
 rotate_left
 by_cases h13:r3=0
 replace h13:=eq_true h13
 by_cases h14:a0_Bit=0
 replace h14:=eq_true h14
 by_cases h15:a0_When=0
 replace h15:=eq_true h15
 rotate_left
 rotate_left
 rotate_left
 rotate_left
 rcases h16:(Pgate_Check F a0_Gate a0_Qubits a1) with _|r4
 rotate_left
 by_cases h17:r4=0
 replace h17:=eq_true h17
 by_cases h18:a0_Bit=0
 replace h18:=eq_true h18
 by_cases h19:a0_When=0
 replace h19:=eq_true h19
 rotate_left
 rotate_left
 rotate_left
 rotate_left
 by_cases h20:a0_If≥0
 by_cases h21:a0_If<a2
 by_cases h22:a0_When=0
 replace h22:=eq_true h22
 rcases h23:(Pgate_Check F a0_Gate a0_Qubits a1) with _|r5
 rotate_left
 by_cases h24:r5=0
 replace h24:=eq_true h24
 by_cases h25:a0_Bit=0
 replace h25:=eq_true h25
 rotate_left
 rotate_left
 rotate_left
 rcases h26:(Pgate_Check F a0_Gate a0_Qubits a1) with _|r6
 rotate_left
 by_cases h27:r6=0
 replace h27:=eq_true h27
 by_cases h28:a0_Bit=0
 replace h28:=eq_true h28
 rotate_left
 rotate_left
 rotate_left
 rcases h29:(Pgate_Check F a0_Gate a0_Qubits a1) with _|r7
 rotate_left
 by_cases h30:r7=0
 replace h30:=eq_true h30
 by_cases h31:a0_Bit=0
 replace h31:=eq_true h31
 rotate_left
 rotate_left
 rotate_left
 rcases h32:(Pgate_Check F a0_Gate a0_Qubits a1) with _|r8
 rotate_left
 by_cases h33:r8=0
 replace h33:=eq_true h33
 by_cases h34:a0_Bit=0
 replace h34:=eq_true h34
 rotate_left
 rotate_left
 rotate_left
 by_cases h35:a0_Gate=0
 replace h35:=eq_true h35
 by_cases h36:a0_If=(((-1):Int))
 replace h36:=eq_true h36
 by_cases h37:a0_When=0
 replace h37:=eq_true h37
 by_cases h38:(a0_Qubits.length:Int)=0
 replace h38:=eq_true h38
 rotate_left
 simp -implicitDefEqProofs only [*,a60,vgate_Check,runC_loop,EVA.down,ne_eq,seval]
 rw [lcircuit_mayL0 (D+4) (by omega) F a1 a2 a0_Qubits (a0_Qubits.length:Int) a0_Kind a0_Gate a0_Qubits a0_Bit a0_If a0_When _ F 0 _ (by simp only [*,a60,vgate_Check,EVA.down,ne_eq,seval];try rfl)]
 rcases h39:(Pcircuit_mayL0 F a1 a2 a0_Qubits (a0_Qubits.length:Int) a0_Kind a0_Gate a0_Qubits a0_Bit a0_If a0_When F 0) with _|(_|_)
 rotate_left
 rotate_left
 by_cases h40:a0_Kind=2
 replace h40:=eq_true h40
 by_cases h41:(a0_Qubits.length:Int)=1
 replace h41:=eq_true h41
 by_cases h42:a0_Bit≥0
 rotate_left
 rotate_left
 rotate_left
 by_cases h43:a0_Kind=3
 replace h43:=eq_true h43
 by_cases h44:(a0_Qubits.length:Int)=1
 replace h44:=eq_true h44
 rotate_left
 rotate_left
 by_cases h45:a0_Kind=4
 replace h45:=eq_true h45
 all_goals simp -implicitDefEqProofs only [*,a60,vgate_Check,EVA.down,ne_eq,seval]
theorem vcircuit_may {D F n:Nat}{args:List AV}{h:AHeap}:OV F (D+1) 60 args h n (n+1)=evW 3 (OV F D) F a60 (frzs (frz true 0 (bif AV.nors args then [] else h) 8) args) (AV.nors args) (hglb h 3):=evV_frozen rfl
theorem lcircuit_CheckL0 (D:Nat)(hD:5≤D)(F:Nat)(v0:List S49)(v1 v3 v4:Int)(v5:List S49)(K:AE→AS→Option Res):∀ (f:Nat) (v2:Int) (s:AS),s.keep [1,31,32,33] [1]=some ⟨[(1,.lp 1 0),(31,.vs v0.length .unk (enc S49.cs v0)),(32,.i .i64 v1),(33,.i .i64 v2)],[(1,[.i .i64 v3,.i .i64 v4,.vs v5.length .unk (enc S49.cs v5)])],[(1,tab64)],3⟩→
 evLoop (evC (OV F D) 3 F a27L0) f s K=match Pcircuit_CheckL0 F v0 v1 v3 v4 v5 f v2 with|none=>none|some (.inl y0)=>K .ret ⟨[(2,.i .i64 y0),(3,.i .i64 (80))],[],[(1,tab64)],3⟩|some (.inr _)=>K (.ex 0) ⟨[],[],[(1,tab64)],3⟩:=by
 obtain ⟨D,rfl⟩:=dex hD
 have ccircuit_may0:=ecircuit_may (D+4) (by omega) F
 intro f
 induction f with
 |zero=>intro v2 s hs;simp only [evLoop,Pcircuit_CheckL0]
 |succ f ih=>
 intro v2 s hs
 obtain ⟨k0,hk,hn,he,hr⟩:=@lk_all (OV F (D+5)) 3 F a27L0 f K
 rw [loop_succ,hk,a27L0,runC_cut,hs]
 clear hs
 simp only [Pcircuit_CheckL0]
 clear hk
 by_cases h1:v2<v1
 rcases ixo (@pk_S49_cs v0 v2) with h2|⟨x1,h2⟩
 rotate_left
 rcases h3:(Pcircuit_may F x1.f_Kind x1.f_Gate x1.f_Qubits x1.f_Bit x1.f_If x1.f_When v3 v4) with _|r2
 rotate_left
 rcases h4:(r2) with _|_
 all_goals simp -implicitDefEqProofs only [*,-ih,vcircuit_may,EVA.down,ne_eq,seval]
 all_goals exact ih _ _ (by simp only [*,-ih,vcircuit_may,EVA.down,ne_eq,seval])
theorem ecircuit_Check (D:Nat)(hD:5≤D)(F:Nat)(a0_Qubits a0_Bits:Int)(a0_Ops:List S49)(q:Bool):evW 3 (OV F D) F a27 (some [.agg [.i .i64 a0_Qubits,.i .i64 a0_Bits,.vs a0_Ops.length .unk (enc S49.cs a0_Ops)]]) q G0 =
 match Pcircuit_Check F a0_Qubits a0_Bits a0_Ops with|none=>none|some (r0,r1)=>some (.tup [.i .i64 r0,.i .i64 r1],none):=by
 obtain ⟨D,rfl⟩:=dex hD
 rw [evW_some,G0]
 simp only [Pcircuit_Check]
 by_cases h1:a0_Qubits<0
 rotate_left
 by_cases h2:a0_Qubits>64
 rotate_left
 by_cases h3:a0_Bits<0
 rotate_left
 by_cases h4:a0_Bits>64
 rotate_left
 by_cases h5:(a0_Ops.length:Int)>4096
 rotate_left
 simp -implicitDefEqProofs only [*,a27,runC_loop,EVA.down,ne_eq,seval]
 rw [lcircuit_CheckL0 (D+5) (by omega) F a0_Ops (a0_Ops.length:Int) a0_Qubits a0_Bits a0_Ops _ F 0 _ (by simp only [*,a27,EVA.down,ne_eq,seval];try rfl)]
 rcases h6:(Pcircuit_CheckL0 F a0_Ops (a0_Ops.length:Int) a0_Qubits a0_Bits a0_Ops F 0) with _|(y1|_)
 all_goals simp -implicitDefEqProofs only [*,a27,EVA.down,ne_eq,seval]
theorem vcircuit_Check {D F n:Nat}{args:List AV}{h:AHeap}:OV F (D+1) 27 args h n (n+1)=evW 3 (OV F D) F a27 (frzs (frz true 0 (bif AV.nors args then [] else h) 8) args) (AV.nors args) (hglb h 3):=evV_frozen rfl
theorem ecircuit_Unitary_1 (D:Nat)(hD:0≤D)(F:Nat)(a0_Kind a0_Gate:Int)(a0_Qubits:List Int)(a0_Bit a0_If a0_When:Int)(q:Bool):evW 3 (OV F D) F a62 (some [.agg [.i .i64 a0_Kind,.i .i64 a0_Gate,.vs a0_Qubits.length .unk (enc c3 a0_Qubits),.i .i64 a0_Bit,.i .i64 a0_If,.i .i64 a0_When]]) q G0 =
 some (.b ((Pcircuit_Unitary_1 a0_Kind a0_Gate a0_Qubits a0_Bit a0_If a0_When)),none):=by
 rw [evW_some,G0]
 simp only [Pcircuit_Unitary_1]
 by_cases h1:a0_Kind=4
 replace h1:=eq_true h1
 rotate_left
 by_cases h2:a0_Kind=1
 replace h2:=eq_true h2
 all_goals simp -implicitDefEqProofs only [*,a62,EVA.down,ne_eq,seval]
theorem vcircuit_Unitary_1 {D F n:Nat}{args:List AV}{h:AHeap}:OV F (D+1) 62 args h n (n+1)=evW 3 (OV F D) F a62 (frzs (frz true 0 (bif AV.nors args then [] else h) 8) args) (AV.nors args) (hglb h 3):=evV_frozen rfl
theorem lcircuit_UnitaryL0 (D:Nat)(hD:1≤D)(F:Nat)(v0:List S49)(v1:Int)(K:AE→AS→Option Res):∀ (f:Nat) (v2:Int) (s:AS),s.keep [0,1,7,8] []=some ⟨[(0,.vs v0.length .unk (enc S49.cs v0)),(1,.fn (.func 62) [] []),(7,.i .i64 v1),(8,.i .i64 v2)],[],[(1,tab64)],3⟩→
 evLoop (evC (OV F D) 3 F a93L0) f s K=match Pcircuit_UnitaryL0 v0 v1 f v2 with|none=>none|some (.inl y0)=>K .ret ⟨[(4,.i .i64 y0)],[],[(1,tab64)],3⟩|some (.inr _)=>K (.ex 0) ⟨[],[],[(1,tab64)],3⟩:=by
 obtain ⟨D,rfl⟩:=dex hD
 have ccircuit_Unitary_10:=ecircuit_Unitary_1 (D) (by omega) F
 intro f
 induction f with
 |zero=>intro v2 s hs;simp only [evLoop,Pcircuit_UnitaryL0]
 |succ f ih=>
 intro v2 s hs
 obtain ⟨k0,hk,hn,he,hr⟩:=@lk_all (OV F (D+1)) 3 F a93L0 f K
 rw [loop_succ,hk,a93L0,runC_cut,hs]
 clear hs
 simp only [Pcircuit_UnitaryL0]
 clear hk
 by_cases h1:v2<v1
 rcases ixo (@pk_S49_cs v0 v2) with h2|⟨x1,h2⟩
 rotate_left
 rcases h3:((Pcircuit_Unitary_1 x1.f_Kind x1.f_Gate x1.f_Qubits x1.f_Bit x1.f_If x1.f_When)) with _|_
 all_goals simp -implicitDefEqProofs only [*,-ih,vcircuit_Unitary_1,EVA.down,ne_eq,seval]
 all_goals exact ih _ _ (by simp only [*,-ih,vcircuit_Unitary_1,EVA.down,ne_eq,seval])
theorem wslices_ContainsFunc_Op {D F n:Nat}{args:List AV}{h:AHeap}:OV F (D+1) 61 args h n (n+1)=match frzs (frz true 0 (bif AV.nors args then [] else h) 8) args with|none=>none|some zs=>match evFn (OV F D) 3 F a61 zs (hglb h 3) 3 with|none=>none|some (v,h',_)=>match frz (AV.nors args) 3 h' 8 v with|some v'=>some (v',none)|none=>none:=(evV_frozen rfl).trans rfl
theorem wslices_IndexFunc_Op {D F n:Nat}{args:List AV}{h:AHeap}:OV F (D+1) 93 args h n (n+1)=match frzs (frz true 0 (bif AV.nors args then [] else h) 8) args with|none=>none|some zs=>match evFn (OV F D) 3 F a93 zs (hglb h 3) 3 with|none=>none|some (v,h',_)=>match frz (AV.nors args) 3 h' 8 v with|some v'=>some (v',none)|none=>none:=(evV_frozen rfl).trans rfl
theorem ecircuit_Unitary (D:Nat)(hD:3≤D)(F:Nat)(a0_Qubits a0_Bits:Int)(a0_Ops:List S49)(q:Bool):evW 3 (OV F D) F a28 (some [.agg [.i .i64 a0_Qubits,.i .i64 a0_Bits,.vs a0_Ops.length .unk (enc S49.cs a0_Ops)]]) q G0 =
 match Pcircuit_Unitary F a0_Qubits a0_Bits a0_Ops with|none=>none|some r0=>some (.b r0,none):=by
 obtain ⟨D,rfl⟩:=dex hD
 rw [evW_some,G0]
 simp only [Pcircuit_Unitary]
 simp -implicitDefEqProofs only [*,a28,a61,wslices_ContainsFunc_Op,a93,wslices_IndexFunc_Op,runC_loop,EVA.down,ne_eq,seval]
 rw [lcircuit_UnitaryL0 (D+1) (by omega) F a0_Ops (a0_Ops.length:Int) _ F 0 _ (by simp only [*,a28,a61,wslices_ContainsFunc_Op,a93,wslices_IndexFunc_Op,EVA.down,ne_eq,seval];try rfl)]
 rcases h1:(Pcircuit_UnitaryL0 a0_Ops (a0_Ops.length:Int) F 0) with _|(y1|_)
 all_goals simp -implicitDefEqProofs only [*,a28,a61,wslices_ContainsFunc_Op,a93,wslices_IndexFunc_Op,EVA.down,ne_eq,seval]
theorem vcircuit_Unitary {D F n:Nat}{args:List AV}{h:AHeap}:OV F (D+1) 28 args h n (n+1)=evW 3 (OV F D) F a28 (frzs (frz true 0 (bif AV.nors args then [] else h) 8) args) (AV.nors args) (hglb h 3):=evV_frozen rfl
theorem egate_Clifford (D:Nat)(hD:0≤D)(F:Nat)(a0:Int)(q:Bool):evW 3 (OV F D) F a64 (some [.i .i64 a0]) q G0 =
 some (.b ((Pgate_Clifford a0)),none):=by
 rw [evW_some,G0]
 simp only [Pgate_Clifford]
 by_cases h1:a0≥1
 all_goals simp -implicitDefEqProofs only [*,a64,EVA.down,ne_eq,seval]
theorem vgate_Clifford {D F n:Nat}{args:List AV}{h:AHeap}:OV F (D+1) 64 args h n (n+1)=evW 3 (OV F D) F a64 (frzs (frz true 0 (bif AV.nors args then [] else h) 8) args) (AV.nors args) (hglb h 3):=evV_frozen rfl
theorem ecircuit_Clifford_1 (D:Nat)(hD:1≤D)(F:Nat)(a0_Kind a0_Gate:Int)(a0_Qubits:List Int)(a0_Bit a0_If a0_When:Int)(q:Bool):evW 3 (OV F D) F a63 (some [.agg [.i .i64 a0_Kind,.i .i64 a0_Gate,.vs a0_Qubits.length .unk (enc c3 a0_Qubits),.i .i64 a0_Bit,.i .i64 a0_If,.i .i64 a0_When]]) q G0 =
 some (.b ((Pcircuit_Clifford_1 a0_Kind a0_Gate a0_Qubits a0_Bit a0_If a0_When)),none):=by
 obtain ⟨D,rfl⟩:=dex hD
 have cgate_Clifford0:=egate_Clifford (D) (by omega) F
 rw [evW_some,G0]
 simp only [Pcircuit_Clifford_1]
 by_cases h1:a0_Kind=1
 replace h1:=eq_true h1
 all_goals simp -implicitDefEqProofs only [*,a63,vgate_Clifford,EVA.down,ne_eq,seval]
theorem vcircuit_Clifford_1 {D F n:Nat}{args:List AV}{h:AHeap}:OV F (D+1) 63 args h n (n+1)=evW 3 (OV F D) F a63 (frzs (frz true 0 (bif AV.nors args then [] else h) 8) args) (AV.nors args) (hglb h 3):=evV_frozen rfl
theorem lcircuit_CliffordL0 (D:Nat)(hD:2≤D)(F:Nat)(v0:List S49)(v1:Int)(K:AE→AS→Option Res):∀ (f:Nat) (v2:Int) (s:AS),s.keep [0,1,7,8] []=some ⟨[(0,.vs v0.length .unk (enc S49.cs v0)),(1,.fn (.func 63) [] []),(7,.i .i64 v1),(8,.i .i64 v2)],[],[(1,tab64)],3⟩→
 evLoop (evC (OV F D) 3 F a93L0) f s K=match Pcircuit_CliffordL0 v0 v1 f v2 with|none=>none|some (.inl y0)=>K .ret ⟨[(4,.i .i64 y0)],[],[(1,tab64)],3⟩|some (.inr _)=>K (.ex 0) ⟨[],[],[(1,tab64)],3⟩:=by
 obtain ⟨D,rfl⟩:=dex hD
 have ccircuit_Clifford_10:=ecircuit_Clifford_1 (D+1) (by omega) F
 intro f
 induction f with
 |zero=>intro v2 s hs;simp only [evLoop,Pcircuit_CliffordL0]
 |succ f ih=>
 intro v2 s hs
 obtain ⟨k0,hk,hn,he,hr⟩:=@lk_all (OV F (D+2)) 3 F a93L0 f K
 rw [loop_succ,hk,a93L0,runC_cut,hs]
 clear hs
 simp only [Pcircuit_CliffordL0]
 clear hk
 by_cases h1:v2<v1
 rcases ixo (@pk_S49_cs v0 v2) with h2|⟨x1,h2⟩
 rotate_left
 rcases h3:((Pcircuit_Clifford_1 x1.f_Kind x1.f_Gate x1.f_Qubits x1.f_Bit x1.f_If x1.f_When)) with _|_
 all_goals simp -implicitDefEqProofs only [*,-ih,vcircuit_Clifford_1,EVA.down,ne_eq,seval]
 all_goals exact ih _ _ (by simp only [*,-ih,vcircuit_Clifford_1,EVA.down,ne_eq,seval])
theorem ecircuit_Clifford (D:Nat)(hD:4≤D)(F:Nat)(a0_Qubits a0_Bits:Int)(a0_Ops:List S49)(q:Bool):evW 3 (OV F D) F a29 (some [.agg [.i .i64 a0_Qubits,.i .i64 a0_Bits,.vs a0_Ops.length .unk (enc S49.cs a0_Ops)]]) q G0 =
 match Pcircuit_Clifford F a0_Qubits a0_Bits a0_Ops with|none=>none|some r0=>some (.b r0,none):=by
 obtain ⟨D,rfl⟩:=dex hD
 rw [evW_some,G0]
 simp only [Pcircuit_Clifford]
 simp -implicitDefEqProofs only [*,a29,a61,wslices_ContainsFunc_Op,a93,wslices_IndexFunc_Op,runC_loop,EVA.down,ne_eq,seval]
 rw [lcircuit_CliffordL0 (D+2) (by omega) F a0_Ops (a0_Ops.length:Int) _ F 0 _ (by simp only [*,a29,a61,wslices_ContainsFunc_Op,a93,wslices_IndexFunc_Op,EVA.down,ne_eq,seval];try rfl)]
 rcases h1:(Pcircuit_CliffordL0 a0_Ops (a0_Ops.length:Int) F 0) with _|(y1|_)
 all_goals simp -implicitDefEqProofs only [*,a29,a61,wslices_ContainsFunc_Op,a93,wslices_IndexFunc_Op,EVA.down,ne_eq,seval]
theorem vcircuit_Clifford {D F n:Nat}{args:List AV}{h:AHeap}:OV F (D+1) 29 args h n (n+1)=evW 3 (OV F D) F a29 (frzs (frz true 0 (bif AV.nors args then [] else h) 8) args) (AV.nors args) (hglb h 3):=evV_frozen rfl
theorem epauli_Check (D:Nat)(hD:0≤D)(F:Nat)(a0_N:Int)(a0_X a0_Z:BitVec 64)(a0_Phase:Int)(q:Bool):evW 3 (OV F D) F a30 (some [.agg [.i .i64 a0_N,.i .u64 (U a0_X),.i .u64 (U a0_Z),.i .i64 a0_Phase]]) q G0 =
 some (.i .i64 ((Ppauli_Check a0_N a0_X a0_Z a0_Phase)),none):=by
 rw [evW_some,G0]
 simp only [Ppauli_Check]
 by_cases h1:a0_N<0
 rotate_left
 by_cases h2:a0_N>64
 rotate_left
 by_cases h3:a0_Phase<0
 rotate_left
 by_cases h4:a0_Phase>3
 rotate_left
 by_cases h5:a0_N<64
 by_cases h6:((a0_X ||| a0_Z) >>> a0_N.toNat)=0#64
 replace h6:=eq_true h6
 all_goals simp -implicitDefEqProofs only [*,a30,EVA.down,ne_eq,seval]
theorem vpauli_Check {D F n:Nat}{args:List AV}{h:AHeap}:OV F (D+1) 30 args h n (n+1)=evW 3 (OV F D) F a30 (frzs (frz true 0 (bif AV.nors args then [] else h) 8) args) (AV.nors args) (hglb h 3):=evV_frozen rfl
theorem egate_Inverse (D:Nat)(hD:2≤D)(F:Nat)(a0:Int)(q:Bool):evW 3 (OV F D) F a31 (some [.i .i64 a0]) q G0 =
 match Pgate_Inverse a0 with|none=>none|some r0=>some (.i .i64 r0,none):=by
 obtain ⟨D,rfl⟩:=dex hD
 have cgate_of0:=egate_of (D+1) (by omega) F
 rw [evW_some,G0]
 simp only [Pgate_Inverse]
 rcases h1:(Pgate_of a0) with _|⟨r1,r2,r3,r4⟩
 all_goals simp -implicitDefEqProofs only [*,a31,vgate_of,EVA.down,ne_eq,seval]
theorem vgate_Inverse {D F n:Nat}{args:List AV}{h:AHeap}:OV F (D+1) 31 args h n (n+1)=evW 3 (OV F D) F a31 (frzs (frz true 0 (bif AV.nors args then [] else h) 8) args) (AV.nors args) (hglb h 3):=evV_frozen rfl
theorem epauli_right (D:Nat)(hD:1≤D)(F:Nat)(a0_N:Int)(a0_X a0_Z:BitVec 64)(a0_Phase:Int)(q:Bool):evW 3 (OV F D) F a66 (some [.agg [.i .i64 a0_N,.i .u64 (U a0_X),.i .u64 (U a0_Z),.i .i64 a0_Phase]]) q G0 =
 some (.b ((Ppauli_right a0_N a0_X a0_Z a0_Phase)),none):=by
 obtain ⟨D,rfl⟩:=dex hD
 have cpauli_Check0:=epauli_Check (D) (by omega) F
 rw [evW_some,G0]
 skip
 all_goals simp -implicitDefEqProofs only [*,a66,Ppauli_right,vpauli_Check,EVA.down,ne_eq,seval]
theorem vpauli_right {D F n:Nat}{args:List AV}{h:AHeap}:OV F (D+1) 66 args h n (n+1)=evW 3 (OV F D) F a66 (frzs (frz true 0 (bif AV.nors args then [] else h) 8) args) (AV.nors args) (hglb h 3):=evV_frozen rfl
theorem lpauli_ThroughL0 (D:Nat)(hD:0≤D)(F:Nat)(v0:Int)(v1 v2:List Int)(v3 v5:Int)(v6 v7:BitVec 64)(v8 v9:Int)(v10 v11:BitVec 64)(v12 v13 v16:Int)(K:AE→AS→Option Res):∀ (f:Nat) (v4:Int) (v14 v15:BitVec 64) (s:AS),s.keep [1,2,3,6,8,33,34,35] [3,6,8]=some ⟨[(1,.i .i64 v0),(2,.vs v1.length .unk (enc c3 v1)),(3,.lp 3 0),(6,.lp 6 0),(8,.lp 8 0),(33,.vs v2.length .unk (enc c3 v2)),(34,.i .i64 v3),(35,.i .i64 v4)],[(3,[.i .i64 v5,.i .u64 (U v6),.i .u64 (U v7),.i .i64 v8]),(6,[.i .i64 v9,.i .u64 (U v10),.i .u64 (U v11),.i .i64 v12]),(8,[.i .i64 v13,.i .u64 (U v14),.i .u64 (U v15),.i .i64 v16])],[(1,tab64)],3⟩→
 evLoop (evC (OV F D) 3 F a32L0) f s K=match Ppauli_ThroughL0 v0 v1 v2 v3 v5 v6 v7 v8 v9 v10 v11 v12 v13 v16 f v4 v14 v15 with|none=>none|some (y0,y1)=>K (.ex 0) ⟨[(1,.i .i64 v0),(2,.vs v1.length .unk (enc c3 v1)),(3,.lp 3 0),(6,.lp 6 0),(8,.lp 8 0)],[(3,[.i .i64 v5,.i .u64 (U v6),.i .u64 (U v7),.i .i64 v8]),(6,[.i .i64 v9,.i .u64 (U v10),.i .u64 (U v11),.i .i64 v12]),(8,[.i .i64 v13,.i .u64 (U y0),.i .u64 (U y1),.i .i64 v16])],[(1,tab64)],3⟩:=by
 intro f
 induction f with
 |zero=>intro v4 v14 v15 s hs;simp only [evLoop,Ppauli_ThroughL0]
 |succ f ih=>
 intro v4 v14 v15 s hs
 obtain ⟨k0,hk,hn,he,hr⟩:=@lk_all (OV F (D)) 3 F a32L0 f K
 rw [loop_succ,hk,a32L0,runC_cut,hs]
 clear hs
 simp only [Ppauli_ThroughL0]
 clear hk
 by_cases h1:v4<v3
 rcases ixo (@pk_c3 v2 v4) with h2|⟨x1,h2⟩
 rotate_left
 by_cases h3:x1<0
 all_goals simp -implicitDefEqProofs only [*,-ih,EVA.down,ne_eq,seval]
 all_goals exact ih _ _ _ _ (by simp only [*,-ih,EVA.down,ne_eq,seval])
theorem epauli_images (D:Nat)(hD:0≤D)(F:Nat)(a0:Int)(q:Bool):evW 3 (OV F D) F a68 (some [.i .i64 a0]) q G0 =
 match Ppauli_images a0 with|none=>none|some r0=>some (.vs r0.length .unk (enc c9 r0),none):=by
 rw [evW_some,G0]
 simp only [Ppauli_images]
 by_cases h1:a0=0
 replace h1:=eq_true h1
 have h2:inb a0 18=true:=by rw [(of_eq_true h1)];decide
 have h3:Int.toNat a0=0:=by rw [(of_eq_true h1)];rfl
 rotate_left
 by_cases h4:a0=1
 replace h4:=eq_true h4
 have h5:inb a0 18=true:=by rw [(of_eq_true h4)];decide
 have h6:Int.toNat a0=1:=by rw [(of_eq_true h4)];rfl
 rotate_left
 by_cases h7:a0=2
 replace h7:=eq_true h7
 have h8:inb a0 18=true:=by rw [(of_eq_true h7)];decide
 have h9:Int.toNat a0=2:=by rw [(of_eq_true h7)];rfl
 rotate_left
 by_cases h10:a0=3
 replace h10:=eq_true h10
 have h11:inb a0 18=true:=by rw [(of_eq_true h10)];decide
 have h12:Int.toNat a0=3:=by rw [(of_eq_true h10)];rfl
 rotate_left
 by_cases h13:a0=4
 replace h13:=eq_true h13
 have h14:inb a0 18=true:=by rw [(of_eq_true h13)];decide
 have h15:Int.toNat a0=4:=by rw [(of_eq_true h13)];rfl
 rotate_left
 by_cases h16:a0=5
 replace h16:=eq_true h16
 have h17:inb a0 18=true:=by rw [(of_eq_true h16)];decide
 have h18:Int.toNat a0=5:=by rw [(of_eq_true h16)];rfl
 rotate_left
 by_cases h19:a0=6
 replace h19:=eq_true h19
 have h20:inb a0 18=true:=by rw [(of_eq_true h19)];decide
 have h21:Int.toNat a0=6:=by rw [(of_eq_true h19)];rfl
 rotate_left
 by_cases h22:a0=7
 replace h22:=eq_true h22
 have h23:inb a0 18=true:=by rw [(of_eq_true h22)];decide
 have h24:Int.toNat a0=7:=by rw [(of_eq_true h22)];rfl
 rotate_left
 by_cases h25:a0=8
 replace h25:=eq_true h25
 have h26:inb a0 18=true:=by rw [(of_eq_true h25)];decide
 have h27:Int.toNat a0=8:=by rw [(of_eq_true h25)];rfl
 rotate_left
 by_cases h28:a0=9
 replace h28:=eq_true h28
 have h29:inb a0 18=true:=by rw [(of_eq_true h28)];decide
 have h30:Int.toNat a0=9:=by rw [(of_eq_true h28)];rfl
 rotate_left
 by_cases h31:a0=10
 replace h31:=eq_true h31
 have h32:inb a0 18=true:=by rw [(of_eq_true h31)];decide
 have h33:Int.toNat a0=10:=by rw [(of_eq_true h31)];rfl
 rotate_left
 by_cases h34:a0=11
 replace h34:=eq_true h34
 have h35:inb a0 18=true:=by rw [(of_eq_true h34)];decide
 have h36:Int.toNat a0=11:=by rw [(of_eq_true h34)];rfl
 rotate_left
 by_cases h37:a0=12
 replace h37:=eq_true h37
 have h38:inb a0 18=true:=by rw [(of_eq_true h37)];decide
 have h39:Int.toNat a0=12:=by rw [(of_eq_true h37)];rfl
 rotate_left
 by_cases h40:a0=13
 replace h40:=eq_true h40
 have h41:inb a0 18=true:=by rw [(of_eq_true h40)];decide
 have h42:Int.toNat a0=13:=by rw [(of_eq_true h40)];rfl
 rotate_left
 by_cases h43:a0=14
 replace h43:=eq_true h43
 have h44:inb a0 18=true:=by rw [(of_eq_true h43)];decide
 have h45:Int.toNat a0=14:=by rw [(of_eq_true h43)];rfl
 rotate_left
 by_cases h46:a0=15
 replace h46:=eq_true h46
 have h47:inb a0 18=true:=by rw [(of_eq_true h46)];decide
 have h48:Int.toNat a0=15:=by rw [(of_eq_true h46)];rfl
 rotate_left
 by_cases h49:a0=16
 replace h49:=eq_true h49
 have h50:inb a0 18=true:=by rw [(of_eq_true h49)];decide
 have h51:Int.toNat a0=16:=by rw [(of_eq_true h49)];rfl
 rotate_left
 by_cases h52:a0=17
 replace h52:=eq_true h52
 have h53:inb a0 18=true:=by rw [(of_eq_true h52)];decide
 have h54:Int.toNat a0=17:=by rw [(of_eq_true h52)];rfl
 rotate_left
 have h55:inb a0 18=false:=by simp only [inb,Bool.and_eq_false_iff,decide_eq_false_iff_not];omega
 all_goals simp -implicitDefEqProofs only [*,a68,EVA.down,ne_eq,seval]
theorem vpauli_images {D F n:Nat}{args:List AV}{h:AHeap}:OV F (D+1) 68 args h n (n+1)=evW 3 (OV F D) F a68 (frzs (frz true 0 (bif AV.nors args then [] else h) 8) args) (AV.nors args) (hglb h 3):=evV_frozen rfl
theorem epauli_code (D:Nat)(hD:0≤D)(F:Nat)(a0_N:Int)(a0_X a0_Z:BitVec 64)(a0_Phase a1:Int)(q:Bool):evW 3 (OV F D) F a69 (some [.agg [.i .i64 a0_N,.i .u64 (U a0_X),.i .u64 (U a0_Z),.i .i64 a0_Phase],.i .i64 a1]) q G0 =
 match Ppauli_code a0_N a0_X a0_Z a0_Phase a1 with|none=>none|some r0=>some (.i .i64 r0,none):=by
 rw [evW_some,G0]
 simp only [Ppauli_code]
 by_cases h1:a1<0
 all_goals simp -implicitDefEqProofs only [*,a69,EVA.down,ne_eq,seval]
theorem vpauli_code {D F n:Nat}{args:List AV}{h:AHeap}:OV F (D+1) 69 args h n (n+1)=evW 3 (OV F D) F a69 (frzs (frz true 0 (bif AV.nors args then [] else h) 8) args) (AV.nors args) (hglb h 3):=evV_frozen rfl
theorem estrings_IndexByte (D:Nat)(hD:0≤D)(F:Nat)(a0:ByteArray)(a1:Int)(q:Bool):evW 3 (OV F D) F a97 (some [.s a0,.i .u8 (a1)]) q G0 =
 some (.i .i64 ((Pstrings_IndexByte a0 a1)),none):=by
 rw [evW_some,G0]
 skip
 all_goals simp -implicitDefEqProofs only [*,a97,Pstrings_IndexByte,k112,EVA.down,ne_eq,seval]
theorem vstrings_IndexByte {D F n:Nat}{args:List AV}{h:AHeap}:OV F (D+1) 97 args h n (n+1)=evW 3 (OV F D) F a97 (frzs (frz true 0 (bif AV.nors args then [] else h) 8) args) (AV.nors args) (hglb h 3):=evV_frozen rfl
theorem lpauli_spreadL0 (D:Nat)(hD:1≤D)(F:Nat)(v0:ByteArray)(v1:List Int)(v2 v4:Int)(v5 v6:BitVec 64)(v7 v8 v11:Int)(K:AE→AS→Option Res):∀ (f:Nat) (v3:Int) (v9 v10:BitVec 64) (s:AS),s.keep [0,6,7,17,18,19] [6,7]=some ⟨[(0,.s v0),(6,.lp 6 0),(7,.lp 7 0),(17,.vs v1.length .unk (enc c3 v1)),(18,.i .i64 v2),(19,.i .i64 v3)],[(6,[.i .i64 v4,.i .u64 (U v5),.i .u64 (U v6),.i .i64 v7]),(7,[.i .i64 v8,.i .u64 (U v9),.i .u64 (U v10),.i .i64 v11])],[(1,tab64)],3⟩→
 evLoop (evC (OV F D) 3 F a71L0) f s K=match Ppauli_spreadL0 v0 v1 v2 v4 v5 v6 v7 v8 v11 f v3 v9 v10 with|none=>none|some (y0,y1)=>K (.ex 0) ⟨[(6,.lp 6 0),(7,.lp 7 0)],[(6,[.i .i64 v4,.i .u64 (U v5),.i .u64 (U v6),.i .i64 v7]),(7,[.i .i64 v8,.i .u64 (U y0),.i .u64 (U y1),.i .i64 v11])],[(1,tab64)],3⟩:=by
 obtain ⟨D,rfl⟩:=dex hD
 have cstrings_IndexByte0:=estrings_IndexByte (D) (by omega) F
 intro f
 induction f with
 |zero=>intro v3 v9 v10 s hs;simp only [evLoop,Ppauli_spreadL0]
 |succ f ih=>
 intro v3 v9 v10 s hs
 obtain ⟨k0,hk,hn,he,hr⟩:=@lk_all (OV F (D+1)) 3 F a71L0 f K
 rw [loop_succ,hk,a71L0,runC_cut,hs]
 clear hs
 simp only [Ppauli_spreadL0]
 clear hk
 by_cases h1:v3<v2
 rcases ixo (@pk_c3 v1 v3) with h2|⟨x1,h2⟩
 rotate_left
 rcases h3:(bidx v0 (IntKind.i64.wrap (v3+1))) with _|x2
 rotate_left
 by_cases h4:((Pstrings_IndexByte (⟨#[73,88,89,90]⟩:ByteArray) x2))=1
 replace h4:=eq_true h4
 by_cases h5:x1<0
 rotate_left
 by_cases h6:((Pstrings_IndexByte (⟨#[73,88,89,90]⟩:ByteArray) x2))≥2
 rotate_left
 rotate_left
 by_cases h7:((Pstrings_IndexByte (⟨#[73,88,89,90]⟩:ByteArray) x2))=2
 replace h7:=eq_true h7
 by_cases h8:x1<0
 rotate_left
 by_cases h9:((Pstrings_IndexByte (⟨#[73,88,89,90]⟩:ByteArray) x2))≥2
 rotate_left
 rotate_left
 by_cases h10:((Pstrings_IndexByte (⟨#[73,88,89,90]⟩:ByteArray) x2))≥2
 by_cases h11:x1<0
 all_goals simp -implicitDefEqProofs only [*,-ih,vstrings_IndexByte,EVA.down,ne_eq,seval]
 all_goals exact ih _ _ _ _ (by simp only [*,-ih,vstrings_IndexByte,EVA.down,ne_eq,seval])
theorem epauli_spread (D:Nat)(hD:1≤D)(F:Nat)(a0:ByteArray)(a1:Int)(a2:List Int)(q:Bool):evW 3 (OV F D) F a71 (some [.s a0,.i .i64 a1,.vs a2.length .unk (enc c3 a2)]) q G0 =
 match Ppauli_spread F a0 a1 a2 with|none=>none|some (r0,r1,r2,r3)=>some (.agg [.i .i64 r0,.i .u64 (U r1),.i .u64 (U r2),.i .i64 r3],none):=by
 obtain ⟨D,rfl⟩:=dex hD
 rw [evW_some,G0]
 simp only [Ppauli_spread]
 rcases h1:(bidx a0 0) with _|x1
 rotate_left
 by_cases h2:x1=45
 replace h2:=eq_true h2
 simp -implicitDefEqProofs only [*,a71,runC_loop,EVA.down,ne_eq,seval]
 rw [lpauli_spreadL0 (D+1) (by omega) F a0 a2 (a2.length:Int) 0 0#64 0#64 0 a1 2 _ F 0 0#64 0#64 _ (by simp only [*,a71,EVA.down,ne_eq,seval];try rfl)]
 rcases h3:(Ppauli_spreadL0 a0 a2 (a2.length:Int) 0 0#64 0#64 0 a1 2 F 0 0#64 0#64) with _|⟨y2,y3⟩
 rotate_left
 rotate_left
 simp -implicitDefEqProofs only [*,a71,runC_loop,EVA.down,ne_eq,seval]
 rw [lpauli_spreadL0 (D+1) (by omega) F a0 a2 (a2.length:Int) 0 0#64 0#64 0 a1 0 _ F 0 0#64 0#64 _ (by simp only [*,a71,EVA.down,ne_eq,seval];try rfl)]
 rcases h4:(Ppauli_spreadL0 a0 a2 (a2.length:Int) 0 0#64 0#64 0 a1 0 F 0 0#64 0#64) with _|⟨y4,y5⟩
 all_goals simp -implicitDefEqProofs only [*,a71,EVA.down,ne_eq,seval]
theorem vpauli_spread {D F n:Nat}{args:List AV}{h:AHeap}:OV F (D+1) 71 args h n (n+1)=evW 3 (OV F D) F a71 (frzs (frz true 0 (bif AV.nors args then [] else h) 8) args) (AV.nors args) (hglb h 3):=evV_frozen rfl
theorem ebits_TrailingZeros64 (D:Nat)(hD:0≤D)(F:Nat)(a0:BitVec 64)(q:Bool):evW 3 (OV F D) F a96 (some [.i .u64 (U a0)]) q G0 =
 match Pbits_TrailingZeros64 a0 with|none=>none|some r0=>some (.i .i64 r0,none):=by
 have u58:AV.i .u64 58=.i .u64 (U 58#64):=id rfl
 have u285870213051353865:AV.i .u64 285870213051353865=.i .u64 (U 285870213051353865#64):=id rfl
 obtain ⟨mk,hmk⟩:∃ m:BitVec 64→BitVec 64,∀ x,x*285870213051353865#64=m x:=⟨fun x=>x*285870213051353865#64,fun _=>rfl⟩
 rw [evW_some,G0]
 simp only [Pbits_TrailingZeros64,hmk]
 by_cases h1:a0=0#64
 replace h1:=eq_true h1
 rotate_left
 rcases h2:(idx zs64 (U ((mk (a0 &&& (-a0))) >>> (58:Nat)))) with _|x1
 have h2o:=tab_out h2
 rotate_left
 have h2i:=tab_inb h2
 have h2r:=tab_at h2
 all_goals simp -implicitDefEqProofs only [*,a96,EVA.down,ne_eq,seval]
theorem vbits_TrailingZeros64 {D F n:Nat}{args:List AV}{h:AHeap}:OV F (D+1) 96 args h n (n+1)=evW 3 (OV F D) F a96 (frzs (frz true 0 (bif AV.nors args then [] else h) 8) args) (AV.nors args) (hglb h 3):=evV_frozen rfl
theorem lpauli_timesL0 (D:Nat)(hD:1≤D)(F:Nat)(v2:Int)(v3 v4:BitVec 64)(v5 v6:Int)(v7 v8:BitVec 64)(v9 v10:Int)(v11 v12:BitVec 64)(v13:Int)(K:AE→AS→Option Res):∀ (f:Nat) (v0:Int) (v1:BitVec 64) (s:AS),s.keep [2,3,4,5,6] [2,3,4]=some ⟨[(2,.lp 2 0),(3,.lp 3 0),(4,.lp 4 0),(5,.i .i64 v0),(6,.i .u64 (U v1))],[(2,[.i .i64 v2,.i .u64 (U v3),.i .u64 (U v4),.i .i64 v5]),(3,[.i .i64 v6,.i .u64 (U v7),.i .u64 (U v8),.i .i64 v9]),(4,[.i .i64 v10,.i .u64 (U v11),.i .u64 (U v12),.i .i64 v13])],[(1,tab64)],3⟩→
 evLoop (evC (OV F D) 3 F a70L0) f s K=match Ppauli_timesL0 v2 v3 v4 v5 v6 v7 v8 v9 v10 v11 v12 v13 f v0 v1 with|none=>none|some (y0)=>K (.ex 0) ⟨[(2,.lp 2 0),(3,.lp 3 0),(4,.lp 4 0),(5,.i .i64 y0)],[(2,[.i .i64 v2,.i .u64 (U v3),.i .u64 (U v4),.i .i64 v5]),(3,[.i .i64 v6,.i .u64 (U v7),.i .u64 (U v8),.i .i64 v9]),(4,[.i .i64 v10,.i .u64 (U v11),.i .u64 (U v12),.i .i64 v13])],[(1,tab64)],3⟩:=by
 obtain ⟨D,rfl⟩:=dex hD
 have cpauli_code0:=epauli_code (D) (by omega) F
 have cbits_TrailingZeros640:=ebits_TrailingZeros64 (D) (by omega) F
 intro f
 induction f with
 |zero=>intro v0 v1 s hs;simp only [evLoop,Ppauli_timesL0]
 |succ f ih=>
 intro v0 v1 s hs
 obtain ⟨k0,hk,hn,he,hr⟩:=@lk_all (OV F (D+1)) 3 F a70L0 f K
 rw [loop_succ,hk,a70L0,runC_cut,hs]
 clear hs
 simp only [Ppauli_timesL0]
 clear hk
 by_cases h1:v1=0#64
 replace h1:=eq_true h1
 rotate_left
 rcases h2:(Pbits_TrailingZeros64 v1) with _|r1
 rotate_left
 rcases h3:(Ppauli_code v6 v7 v8 v9 r1) with _|r2
 rotate_left
 rcases h4:(Ppauli_code v2 v3 v4 v5 r1) with _|r3
 rotate_left
 by_cases h5:((IntKind.i64.wrap ((IntKind.i64.wrap (r2-r3))+3)).tmod 3)=1
 replace h5:=eq_true h5
 rotate_left
 by_cases h6:((IntKind.i64.wrap ((IntKind.i64.wrap (r2-r3))+3)).tmod 3)=2
 replace h6:=eq_true h6
 all_goals simp -implicitDefEqProofs only [*,-ih,vpauli_code,vbits_TrailingZeros64,EVA.down,ne_eq,seval]
 all_goals exact ih _ _ _ (by simp only [*,-ih,vpauli_code,vbits_TrailingZeros64,EVA.down,ne_eq,seval])
theorem epauli_times (D:Nat)(hD:1≤D)(F:Nat)(a0_N:Int)(a0_X a0_Z:BitVec 64)(a0_Phase a1_N:Int)(a1_X a1_Z:BitVec 64)(a1_Phase:Int)(q:Bool):evW 3 (OV F D) F a70 (some [.agg [.i .i64 a0_N,.i .u64 (U a0_X),.i .u64 (U a0_Z),.i .i64 a0_Phase],.agg [.i .i64 a1_N,.i .u64 (U a1_X),.i .u64 (U a1_Z),.i .i64 a1_Phase]]) q G0 =
 match Ppauli_times F a0_N a0_X a0_Z a0_Phase a1_N a1_X a1_Z a1_Phase with|none=>none|some (r0,r1,r2,r3)=>some (.agg [.i .i64 r0,.i .u64 (U r1),.i .u64 (U r2),.i .i64 r3],none):=by
 obtain ⟨D,rfl⟩:=dex hD
 rw [evW_some,G0]
 simp only [Ppauli_times]
 simp -implicitDefEqProofs only [*,a70,runC_loop,EVA.down,ne_eq,seval]
 rw [lpauli_timesL0 (D+1) (by omega) F a0_N a0_X a0_Z a0_Phase a1_N a1_X a1_Z a1_Phase 0 0#64 0#64 0 _ F (IntKind.i64.wrap (a0_Phase+a1_Phase)) ((a0_X ||| a0_Z) &&& (a1_X ||| a1_Z)) _ (by simp only [*,a70,EVA.down,ne_eq,seval];try rfl)]
 rcases h1:(Ppauli_timesL0 a0_N a0_X a0_Z a0_Phase a1_N a1_X a1_Z a1_Phase 0 0#64 0#64 0 F (IntKind.i64.wrap (a0_Phase+a1_Phase)) ((a0_X ||| a0_Z) &&& (a1_X ||| a1_Z))) with _|y1
 all_goals simp -implicitDefEqProofs only [*,a70,EVA.down,ne_eq,seval]
theorem vpauli_times {D F n:Nat}{args:List AV}{h:AHeap}:OV F (D+1) 70 args h n (n+1)=evW 3 (OV F D) F a70 (frzs (frz true 0 (bif AV.nors args then [] else h) 8) args) (AV.nors args) (hglb h 3):=evV_frozen rfl
theorem lpauli_ThroughL1 (D:Nat)(hD:2≤D)(F:Nat)(v0:List Int)(v1:List ByteArray)(v2:List Int)(v3 v5:Int)(v6 v7:BitVec 64)(v8 v9:Int)(v10 v11:BitVec 64)(v12:Int)(K:AE→AS→Option Res):∀ (f:Nat) (v4 v13:Int) (v14 v15:BitVec 64) (v16:Int) (s:AS),s.keep [2,3,6,8,11,54,55,56] [3,6,8]=some ⟨[(2,.vs v0.length .unk (enc c3 v0)),(3,.lp 3 0),(6,.lp 6 0),(8,.lp 8 0),(11,.vs v1.length .unk (enc c9 v1)),(54,.vs v2.length .unk (enc c3 v2)),(55,.i .i64 v3),(56,.i .i64 v4)],[(3,[.i .i64 v5,.i .u64 (U v6),.i .u64 (U v7),.i .i64 v8]),(6,[.i .i64 v9,.i .u64 (U v10),.i .u64 (U v11),.i .i64 v12]),(8,[.i .i64 v13,.i .u64 (U v14),.i .u64 (U v15),.i .i64 v16])],[(1,tab64)],3⟩→
 evLoop (evC (OV F D) 3 F a32L1) f s K=match Ppauli_ThroughL1 F v0 v1 v2 v3 v5 v6 v7 v8 v9 v10 v11 v12 f v4 v13 v14 v15 v16 with|none=>none|some (y0,y1,y2,y3)=>K (.ex 2) ⟨[(6,.lp 6 0),(8,.lp 8 0)],[(6,[.i .i64 v9,.i .u64 (U v10),.i .u64 (U v11),.i .i64 v12]),(8,[.i .i64 y0,.i .u64 (U y1),.i .u64 (U y2),.i .i64 y3])],[(1,tab64)],3⟩:=by
 obtain ⟨D,rfl⟩:=dex hD
 have cpauli_code0:=epauli_code (D+1) (by omega) F
 have cpauli_times0:=epauli_times (D+1) (by omega) F
 have cpauli_spread0:=epauli_spread (D+1) (by omega) F
 intro f
 induction f with
 |zero=>intro v4 v13 v14 v15 v16 s hs;simp only [evLoop,Ppauli_ThroughL1]
 |succ f ih=>
 intro v4 v13 v14 v15 v16 s hs
 obtain ⟨k0,hk,hn,he,hr⟩:=@lk_all (OV F (D+2)) 3 F a32L1 f K
 rw [loop_succ,hk,a32L1,runC_cut,hs]
 clear hs
 simp only [Ppauli_ThroughL1]
 clear hk
 by_cases h1:v4<v3
 rcases ixo (@pk_c3 v2 v4) with h2|⟨x1,h2⟩
 rotate_left
 rcases h3:(Ppauli_code v5 v6 v7 v8 x1) with _|r2
 rotate_left
 by_cases h4:r2=2
 replace h4:=eq_true h4
 by_cases h5:r2=1
 replace h5:=eq_true h5
 rcases ixo (@pk_c9 v1 (IntKind.i64.wrap (2*v4))) with h6|⟨x3,h6⟩
 rotate_left
 rcases h7:(Ppauli_spread F x3 v5 v0) with _|⟨r4,r5,r6,r7⟩
 rotate_left
 rcases h8:(Ppauli_times F v13 v14 v15 ((IntKind.i64.wrap (v16+1)).tmod 4) r4 r5 r6 r7) with _|⟨r8,r9,r10,r11⟩
 rotate_left
 by_cases h9:r2≥2
 rcases ixo (@pk_c9 v1 (IntKind.i64.wrap ((IntKind.i64.wrap (2*v4))+1))) with h10|⟨x12,h10⟩
 rotate_left
 rcases h11:(Ppauli_spread F x12 v5 v0) with _|⟨r13,r14,r15,r16⟩
 rotate_left
 rcases h12:(Ppauli_times F r8 r9 r10 r11 r13 r14 r15 r16) with _|⟨r17,r18,r19,r20⟩
 rotate_left
 rotate_left
 rotate_left
 rcases ixo (@pk_c9 v1 (IntKind.i64.wrap (2*v4))) with h13|⟨x21,h13⟩
 rotate_left
 rcases h14:(Ppauli_spread F x21 v5 v0) with _|⟨r22,r23,r24,r25⟩
 rotate_left
 rcases h15:(Ppauli_times F v13 v14 v15 ((IntKind.i64.wrap (v16+1)).tmod 4) r22 r23 r24 r25) with _|⟨r26,r27,r28,r29⟩
 rotate_left
 by_cases h16:r2≥2
 rcases ixo (@pk_c9 v1 (IntKind.i64.wrap ((IntKind.i64.wrap (2*v4))+1))) with h17|⟨x30,h17⟩
 rotate_left
 rcases h18:(Ppauli_spread F x30 v5 v0) with _|⟨r31,r32,r33,r34⟩
 rotate_left
 rcases h19:(Ppauli_times F r26 r27 r28 r29 r31 r32 r33 r34) with _|⟨r35,r36,r37,r38⟩
 rotate_left
 rotate_left
 rotate_left
 by_cases h20:r2=1
 replace h20:=eq_true h20
 rcases ixo (@pk_c9 v1 (IntKind.i64.wrap (2*v4))) with h21|⟨x39,h21⟩
 rotate_left
 rcases h22:(Ppauli_spread F x39 v5 v0) with _|⟨r40,r41,r42,r43⟩
 rotate_left
 rcases h23:(Ppauli_times F v13 v14 v15 v16 r40 r41 r42 r43) with _|⟨r44,r45,r46,r47⟩
 rotate_left
 by_cases h24:r2≥2
 rcases ixo (@pk_c9 v1 (IntKind.i64.wrap ((IntKind.i64.wrap (2*v4))+1))) with h25|⟨x48,h25⟩
 rotate_left
 rcases h26:(Ppauli_spread F x48 v5 v0) with _|⟨r49,r50,r51,r52⟩
 rotate_left
 rcases h27:(Ppauli_times F r44 r45 r46 r47 r49 r50 r51 r52) with _|⟨r53,r54,r55,r56⟩
 rotate_left
 rotate_left
 rotate_left
 by_cases h28:r2≥2
 rcases ixo (@pk_c9 v1 (IntKind.i64.wrap ((IntKind.i64.wrap (2*v4))+1))) with h29|⟨x57,h29⟩
 rotate_left
 rcases h30:(Ppauli_spread F x57 v5 v0) with _|⟨r58,r59,r60,r61⟩
 rotate_left
 rcases h31:(Ppauli_times F v13 v14 v15 v16 r58 r59 r60 r61) with _|⟨r62,r63,r64,r65⟩
 all_goals simp -implicitDefEqProofs only [*,-ih,vpauli_code,vpauli_times,vpauli_spread,EVA.down,ne_eq,seval]
 all_goals exact ih _ _ _ _ _ _ (by simp only [*,-ih,vpauli_code,vpauli_times,vpauli_spread,EVA.down,ne_eq,seval])
theorem epauli_Through (D:Nat)(hD:4≤D)(F:Nat)(a0_N:Int)(a0_X a0_Z:BitVec 64)(a0_Phase a1:Int)(a2:List Int)(q:Bool):evW 3 (OV F D) F a32 (some [.agg [.i .i64 a0_N,.i .u64 (U a0_X),.i .u64 (U a0_Z),.i .i64 a0_Phase],.i .i64 a1,.vs a2.length .unk (enc c3 a2)]) q G0 =
 match Ppauli_Through F a0_N a0_X a0_Z a0_Phase a1 a2 with|none=>none|some (r0,r1,r2,r3,r4)=>some (.tup [.agg [.i .i64 r0,.i .u64 (U r1),.i .u64 (U r2),.i .i64 r3],.i .i64 r4],none):=by
 obtain ⟨D,rfl⟩:=dex hD
 have cgate_Clifford0:=egate_Clifford (D+3) (by omega) F
 have cpauli_right0:=epauli_right (D+3) (by omega) F
 have cgate_Check0:=egate_Check (D+3) (by omega) F
 have cpauli_images0:=epauli_images (D+3) (by omega) F
 rw [evW_some,G0]
 simp only [Ppauli_Through]
 rcases h1:((Ppauli_right a0_N a0_X a0_Z a0_Phase)) with _|_
 rotate_left
 rcases h2:((Pgate_Clifford a1)) with _|_
 rotate_left
 rcases h3:(Pgate_Check F a1 a2 a0_N) with _|r1
 rotate_left
 by_cases h4:r1=0
 replace h4:=eq_true h4
 simp -implicitDefEqProofs only [*,a32,vgate_Clifford,vpauli_right,vgate_Check,vpauli_images,runC_loop,EVA.down,ne_eq,seval]
 rw [lpauli_ThroughL0 (D+4) (by omega) F a1 a2 a2 (a2.length:Int) a0_N a0_X a0_Z a0_Phase 0 0#64 0#64 0 a0_N a0_Phase _ F 0 a0_X a0_Z _ (by simp only [*,a32,vgate_Clifford,vpauli_right,vgate_Check,vpauli_images,EVA.down,ne_eq,seval];try rfl)]
 rcases h5:(Ppauli_ThroughL0 a1 a2 a2 (a2.length:Int) a0_N a0_X a0_Z a0_Phase 0 0#64 0#64 0 a0_N a0_Phase F 0 a0_X a0_Z) with _|⟨y2,y3⟩
 rotate_left
 rcases h6:(Ppauli_images a1) with _|r4
 rotate_left
 simp -implicitDefEqProofs only [*,a32,vgate_Clifford,vpauli_right,vgate_Check,vpauli_images,runC_loop,EVA.down,ne_eq,seval]
 rw [lpauli_ThroughL1 (D+4) (by omega) F a2 r4 a2 (a2.length:Int) a0_N a0_X a0_Z a0_Phase 0 0#64 0#64 0 _ F 0 a0_N y2 y3 a0_Phase _ (by simp only [*,a32,vgate_Clifford,vpauli_right,vgate_Check,vpauli_images,EVA.down,ne_eq,seval];try rfl)]
 rcases h7:(Ppauli_ThroughL1 F a2 r4 a2 (a2.length:Int) a0_N a0_X a0_Z a0_Phase 0 0#64 0#64 0 F 0 a0_N y2 y3 a0_Phase) with _|⟨y5,y6,y7,y8⟩
 all_goals simp -implicitDefEqProofs only [*,a32,vgate_Clifford,vpauli_right,vgate_Check,vpauli_images,EVA.down,ne_eq,seval]
theorem vpauli_Through {D F n:Nat}{args:List AV}{h:AHeap}:OV F (D+1) 32 args h n (n+1)=evW 3 (OV F D) F a32 (frzs (frz true 0 (bif AV.nors args then [] else h) 8) args) (AV.nors args) (hglb h 3):=evV_frozen rfl
theorem lexpect_carriedL0 (D:Nat)(hD:5≤D)(F:Nat)(v0:Bool)(v1 v3 v4:Int)(v5:List S49)(v10:Int)(v11 v12:BitVec 64)(v13:Int)(K:AE→AS→Option Res):∀ (f:Nat) (v2 v6:Int) (v7 v8:BitVec 64) (v9:Int) (s:AS),s.keep [2,3,4,6,44,45] [3,4,6]=some ⟨[(2,.b v0),(3,.lp 3 0),(4,.lp 4 0),(6,.lp 6 0),(44,.i .i64 v1),(45,.i .i64 v2)],[(3,[.i .i64 v3,.i .i64 v4,.vs v5.length .unk (enc S49.cs v5)]),(4,[.i .i64 v6,.i .u64 (U v7),.i .u64 (U v8),.i .i64 v9]),(6,[.i .i64 v10,.i .u64 (U v11),.i .u64 (U v12),.i .i64 v13])],[(1,tab64)],3⟩→
 evLoop (evC (OV F D) 3 F a12L0) f s K=match Pexpect_carriedL0 F v0 v1 v3 v4 v5 v10 v11 v12 v13 f v2 v6 v7 v8 v9 with|none=>none|some (y0,y1,y2,y3)=>K (.ex 0) ⟨[(4,.lp 4 0),(6,.lp 6 0)],[(4,[.i .i64 y0,.i .u64 (U y1),.i .u64 (U y2),.i .i64 y3]),(6,[.i .i64 v10,.i .u64 (U v11),.i .u64 (U v12),.i .i64 v13])],[(1,tab64)],3⟩:=by
 obtain ⟨D,rfl⟩:=dex hD
 have cgate_Inverse0:=egate_Inverse (D+4) (by omega) F
 have cpauli_Through0:=epauli_Through (D+4) (by omega) F
 intro f
 induction f with
 |zero=>intro v2 v6 v7 v8 v9 s hs;simp only [evLoop,Pexpect_carriedL0]
 |succ f ih=>
 intro v2 v6 v7 v8 v9 s hs
 obtain ⟨k0,hk,hn,he,hr⟩:=@lk_all (OV F (D+5)) 3 F a12L0 f K
 rw [loop_succ,hk,a12L0,runC_cut,hs]
 clear hs
 simp only [Pexpect_carriedL0]
 clear hk
 by_cases h1:v2<v1
 rcases ixo (@pk_S49_cs v5 v2) with h2|⟨x1,h2⟩
 rotate_left
 rcases h3:(v0) with _|_
 try simp only [h3] at ih
 by_cases h4:x1.f_Kind=1
 replace h4:=eq_true h4
 rcases h5:(Ppauli_Through F v6 v7 v8 v9 x1.f_Gate x1.f_Qubits) with _|⟨r9,r10,r11,r12,r13⟩
 rotate_left
 rotate_left
 rotate_left
 try simp only [h3] at ih
 rcases ixo (@pk_S49_cs v5 (IntKind.i64.wrap ((IntKind.i64.wrap ((v5.length:Int)-1))-v2))) with h6|⟨x2,h6⟩
 rotate_left
 rcases h7:(Pgate_Inverse x2.f_Gate) with _|r3
 rotate_left
 by_cases h8:x2.f_Kind=1
 replace h8:=eq_true h8
 rcases h9:(Ppauli_Through F v6 v7 v8 v9 r3 x2.f_Qubits) with _|⟨r4,r5,r6,r7,r8⟩
 all_goals simp -implicitDefEqProofs only [*,-ih,vgate_Inverse,vpauli_Through,EVA.down,ne_eq,seval]
 all_goals exact ih _ _ _ _ _ _ (by simp only [*,-ih,vgate_Inverse,vpauli_Through,EVA.down,ne_eq,seval])
theorem eexpect_carried (D:Nat)(hD:6≤D)(F:Nat)(a0_Qubits a0_Bits:Int)(a0_Ops:List S49)(a1_N:Int)(a1_X a1_Z:BitVec 64)(a1_Phase:Int)(a2 q:Bool):evW 3 (OV F D) F a12 (some [.agg [.i .i64 a0_Qubits,.i .i64 a0_Bits,.vs a0_Ops.length .unk (enc S49.cs a0_Ops)],.agg [.i .i64 a1_N,.i .u64 (U a1_X),.i .u64 (U a1_Z),.i .i64 a1_Phase],.b a2]) q G0 =
 match Pexpect_carried F a0_Qubits a0_Bits a0_Ops a1_N a1_X a1_Z a1_Phase a2 with|none=>none|some (r0,r1,r2,r3,r4)=>some (.tup [.agg [.i .i64 r0,.i .u64 (U r1),.i .u64 (U r2),.i .i64 r3],.i .i64 r4],none):=by
 obtain ⟨D,rfl⟩:=dex hD
 have ccircuit_Check0:=ecircuit_Check (D+5) (by omega) F
 have ccircuit_Unitary0:=ecircuit_Unitary (D+5) (by omega) F
 have ccircuit_Clifford0:=ecircuit_Clifford (D+5) (by omega) F
 have cpauli_Check0:=epauli_Check (D+5) (by omega) F
 rw [evW_some,G0]
 simp only [Pexpect_carried]
 rcases h1:(Pcircuit_Check F a0_Qubits a0_Bits a0_Ops) with _|⟨r1,r2⟩
 rotate_left
 by_cases h2:r2=0
 replace h2:=eq_true h2
 rcases h3:(Pcircuit_Unitary F a0_Qubits a0_Bits a0_Ops) with _|r3
 rotate_left
 rcases h4:(r3) with _|_
 rotate_left
 rcases h5:(Pcircuit_Clifford F a0_Qubits a0_Bits a0_Ops) with _|r4
 rotate_left
 rcases h6:(r4) with _|_
 rotate_left
 by_cases h7:(Ppauli_Check a1_N a1_X a1_Z a1_Phase)=0
 replace h7:=eq_true h7
 by_cases h8:a1_N=a0_Qubits
 replace h8:=eq_true h8
 simp -implicitDefEqProofs only [*,a12,vcircuit_Check,vcircuit_Unitary,vcircuit_Clifford,vpauli_Check,runC_loop,EVA.down,ne_eq,seval]
 rw [lexpect_carriedL0 (D+6) (by omega) F a2 (a0_Ops.length:Int) a0_Qubits a0_Bits a0_Ops 0 0#64 0#64 0 _ F 0 a1_N a1_X a1_Z a1_Phase _ (by simp only [*,a12,vcircuit_Check,vcircuit_Unitary,vcircuit_Clifford,vpauli_Check,EVA.down,ne_eq,seval];try rfl)]
 rcases h9:(Pexpect_carriedL0 F a2 (a0_Ops.length:Int) a0_Qubits a0_Bits a0_Ops 0 0#64 0#64 0 F 0 a1_N a1_X a1_Z a1_Phase) with _|⟨y5,y6,y7,y8⟩
 all_goals simp -implicitDefEqProofs only [*,a12,vcircuit_Check,vcircuit_Unitary,vcircuit_Clifford,vpauli_Check,EVA.down,ne_eq,seval]
theorem vexpect_carried {D F n:Nat}{args:List AV}{h:AHeap}:OV F (D+1) 12 args h n (n+1)=evW 3 (OV F D) F a12 (frzs (frz true 0 (bif AV.nors args then [] else h) 8) args) (AV.nors args) (hglb h 3):=evV_frozen rfl
theorem eexpect_Forth (D:Nat)(hD:7≤D)(F:Nat)(a0_Qubits a0_Bits:Int)(a0_Ops:List S49)(a1_N:Int)(a1_X a1_Z:BitVec 64)(a1_Phase:Int)(q:Bool):evW 3 (OV F D) F a4 (some [.agg [.i .i64 a0_Qubits,.i .i64 a0_Bits,.vs a0_Ops.length .unk (enc S49.cs a0_Ops)],.agg [.i .i64 a1_N,.i .u64 (U a1_X),.i .u64 (U a1_Z),.i .i64 a1_Phase]]) q G0 =
 match Pexpect_Forth F a0_Qubits a0_Bits a0_Ops a1_N a1_X a1_Z a1_Phase with|none=>none|some (r0,r1,r2,r3,r4)=>some (.tup [.agg [.i .i64 r0,.i .u64 (U r1),.i .u64 (U r2),.i .i64 r3],.i .i64 r4],none):=by
 obtain ⟨D,rfl⟩:=dex hD
 have cexpect_carried0:=eexpect_carried (D+6) (by omega) F
 rw [evW_some,G0]
 simp only [Pexpect_Forth]
 rcases h1:(Pexpect_carried F a0_Qubits a0_Bits a0_Ops a1_N a1_X a1_Z a1_Phase false) with _|⟨r1,r2,r3,r4,r5⟩
 all_goals simp -implicitDefEqProofs only [*,a4,vexpect_carried,EVA.down,ne_eq,seval]
theorem vexpect_Forth {D F n:Nat}{args:List AV}{h:AHeap}:OV F (D+1) 4 args h n (n+1)=evW 3 (OV F D) F a4 (frzs (frz true 0 (bif AV.nors args then [] else h) 8) args) (AV.nors args) (hglb h 3):=evV_frozen rfl
theorem eref06_Is (D:Nat)(hD:0≤D)(F:Nat)(a0:Int)(q:Bool):evW 3 (OV F D) F a41 (some [.i .i64 a0]) q G0 =
 some (.b ((Pref06_Is a0)),none):=by
 rw [evW_some,G0]
 simp only [Pref06_Is]
 by_cases h1:a0≥1
 all_goals simp -implicitDefEqProofs only [*,a41,EVA.down,ne_eq,seval]
theorem vref06_Is {D F n:Nat}{args:List AV}{h:AHeap}:OV F (D+1) 41 args h n (n+1)=evW 3 (OV F D) F a41 (frzs (frz true 0 (bif AV.nors args then [] else h) 8) args) (AV.nors args) (hglb h 3):=evV_frozen rfl
theorem eref06_Arity (D:Nat)(hD:1≤D)(F:Nat)(a0:Int)(q:Bool):evW 3 (OV F D) F a74 (some [.i .i64 a0]) q G0 =
 some (.i .i64 ((Pref06_Arity a0)),none):=by
 obtain ⟨D,rfl⟩:=dex hD
 have cref06_Is0:=eref06_Is (D) (by omega) F
 rw [evW_some,G0]
 simp only [Pref06_Arity]
 rcases h1:((Pref06_Is a0)) with _|_
 rotate_left
 by_cases h2:a0≤10
 rotate_left
 by_cases h3:a0≤17
 all_goals simp -implicitDefEqProofs only [*,a74,vref06_Is,EVA.down,ne_eq,seval]
theorem vref06_Arity {D F n:Nat}{args:List AV}{h:AHeap}:OV F (D+1) 74 args h n (n+1)=evW 3 (OV F D) F a74 (frzs (frz true 0 (bif AV.nors args then [] else h) 8) args) (AV.nors args) (hglb h 3):=evV_frozen rfl
theorem lref06_CheckL0 (D:Nat)(hD:0≤D)(F:Nat)(v0:List Int)(v1 v2:Int)(K:AE→AS→Option Res):∀ (f:Nat) (v3:Int) (s:AS),s.keep [1,2,7,8] []=some ⟨[(1,.vs v0.length .unk (enc c3 v0)),(2,.i .i64 v1),(7,.i .i64 v2),(8,.i .i64 v3)],[],[(1,tab64)],3⟩→
 evLoop (evC (OV F D) 3 F a37L0) f s K=match Pref06_CheckL0 v0 v1 v2 f v3 with|none=>none|some (.inl _)=>K .ret ⟨[(6,.i .i64 (61))],[],[(1,tab64)],3⟩|some (.inr _)=>K (.ex 2) ⟨[(1,.vs v0.length .unk (enc c3 v0)),(2,.i .i64 v1),(7,.i .i64 v2)],[],[(1,tab64)],3⟩:=by
 intro f
 induction f with
 |zero=>intro v3 s hs;simp only [evLoop,Pref06_CheckL0]
 |succ f ih=>
 intro v3 s hs
 obtain ⟨k0,hk,hn,he,hr⟩:=@lk_all (OV F (D)) 3 F a37L0 f K
 rw [loop_succ,hk,a37L0,runC_cut,hs]
 clear hs
 simp only [Pref06_CheckL0]
 clear hk
 by_cases h1:v3<v2
 rcases ixo (@pk_c3 v0 v2) with h2|⟨x1,h2⟩
 rotate_left
 rcases ixo (@pk_c3 v0 v3) with h3|⟨x2,h3⟩
 rotate_left
 by_cases h4:x1=x2
 replace h4:=eq_true h4
 all_goals simp -implicitDefEqProofs only [*,-ih,EVA.down,ne_eq,seval]
 all_goals exact ih _ _ (by simp only [*,-ih,EVA.down,ne_eq,seval])
theorem lref06_CheckL1 (D:Nat)(hD:0≤D)(F:Nat)(v0:List Int)(v1:Int)(K:AE→AS→Option Res):∀ (f:Nat) (v2:Int) (s:AS),s.keep [1,2,7] []=some ⟨[(1,.vs v0.length .unk (enc c3 v0)),(2,.i .i64 v1),(7,.i .i64 v2)],[],[(1,tab64)],3⟩→
 evLoop (evC (OV F D) 3 F a37L1) f s K=match Pref06_CheckL1 F v0 v1 f v2 with|none=>none|some (.inl _)=>K .ret ⟨[(6,.i .i64 (61))],[],[(1,tab64)],3⟩|some (.inr _)=>K (.ex 0) ⟨[],[],[(1,tab64)],3⟩:=by
 intro f
 induction f with
 |zero=>intro v2 s hs;simp only [evLoop,Pref06_CheckL1]
 |succ f ih=>
 intro v2 s hs
 obtain ⟨k0,hk,hn,he,hr⟩:=@lk_all (OV F (D)) 3 F a37L1 f K
 rw [loop_succ,hk,a37L1,runC_cut,hs]
 clear hs
 simp only [Pref06_CheckL1]
 clear hk
 by_cases h1:v2<(v0.length:Int)
 rcases ixo (@pk_c3 v0 v2) with h2|⟨x1,h2⟩
 rotate_left
 by_cases h3:x1<0
 rotate_left
 by_cases h4:x1≥v1
 rotate_left
 simp -implicitDefEqProofs only [*,-ih,runC_loop,EVA.down,ne_eq,seval]
 rw [lref06_CheckL0 (D) (by omega) F v0 v1 v2 _ F 0 _ (by simp only [*,-ih,EVA.down,ne_eq,seval];try rfl)]
 rcases h5:(Pref06_CheckL0 v0 v1 v2 F 0) with _|(_|_)
 all_goals simp -implicitDefEqProofs only [*,-ih,EVA.down,ne_eq,seval]
 all_goals exact ih _ _ (by simp only [*,-ih,EVA.down,ne_eq,seval])
theorem eref06_Check (D:Nat)(hD:2≤D)(F:Nat)(a0:Int)(a1:List Int)(a2:Int)(q:Bool):evW 3 (OV F D) F a37 (some [.i .i64 a0,.vs a1.length .unk (enc c3 a1),.i .i64 a2]) q G0 =
 match Pref06_Check F a0 a1 a2 with|none=>none|some r0=>some (.i .i64 r0,none):=by
 obtain ⟨D,rfl⟩:=dex hD
 have cref06_Is0:=eref06_Is (D+1) (by omega) F
 have cref06_Arity0:=eref06_Arity (D+1) (by omega) F
 rw [evW_some,G0]
 simp only [Pref06_Check]
 rcases h1:((Pref06_Is a0)) with _|_
 rotate_left
 by_cases h2:(a1.length:Int)=(Pref06_Arity a0)
 replace h2:=eq_true h2
 simp -implicitDefEqProofs only [*,a37,vref06_Is,vref06_Arity,runC_loop,EVA.down,ne_eq,seval]
 rw [lref06_CheckL1 (D+2) (by omega) F a1 a2 _ F 0 _ (by simp only [*,a37,vref06_Is,vref06_Arity,EVA.down,ne_eq,seval];try rfl)]
 rcases h3:(Pref06_CheckL1 F a1 a2 F 0) with _|(_|_)
 all_goals simp -implicitDefEqProofs only [*,a37,vref06_Is,vref06_Arity,EVA.down,ne_eq,seval]
theorem vref06_Check {D F n:Nat}{args:List AV}{h:AHeap}:OV F (D+1) 37 args h n (n+1)=evW 3 (OV F D) F a37 (frzs (frz true 0 (bif AV.nors args then [] else h) 8) args) (AV.nors args) (hglb h 3):=evV_frozen rfl
theorem lref08_unlikeL0 (D:Nat)(hD:0≤D)(F:Nat)(v0:List Int)(v1 v2:Int)(K:AE→AS→Option Res):∀ (f:Nat) (v3:Int) (s:AS),s.keep [0,1,5,6] []=some ⟨[(0,.vs v0.length .unk (enc c3 v0)),(1,.i .i64 v1),(5,.i .i64 v2),(6,.i .i64 v3)],[],[(1,tab64)],3⟩→
 evLoop (evC (OV F D) 3 F a113L0) f s K=match Pref08_unlikeL0 v0 v1 v2 f v3 with|none=>none|some (.inl _)=>K .ret ⟨[(4,.b false)],[],[(1,tab64)],3⟩|some (.inr _)=>K (.ex 2) ⟨[(0,.vs v0.length .unk (enc c3 v0)),(1,.i .i64 v1),(5,.i .i64 v2)],[],[(1,tab64)],3⟩:=by
 intro f
 induction f with
 |zero=>intro v3 s hs;simp only [evLoop,Pref08_unlikeL0]
 |succ f ih=>
 intro v3 s hs
 obtain ⟨k0,hk,hn,he,hr⟩:=@lk_all (OV F (D)) 3 F a113L0 f K
 rw [loop_succ,hk,a113L0,runC_cut,hs]
 clear hs
 simp only [Pref08_unlikeL0]
 clear hk
 by_cases h1:v3<v2
 rcases ixo (@pk_c3 v0 v3) with h2|⟨x1,h2⟩
 rotate_left
 rcases ixo (@pk_c3 v0 v2) with h3|⟨x2,h3⟩
 rotate_left
 by_cases h4:x1=x2
 replace h4:=eq_true h4
 all_goals simp -implicitDefEqProofs only [*,-ih,EVA.down,ne_eq,seval]
 all_goals exact ih _ _ (by simp only [*,-ih,EVA.down,ne_eq,seval])
theorem lref08_unlikeL1 (D:Nat)(hD:0≤D)(F:Nat)(v0:List Int)(v1:Int)(K:AE→AS→Option Res):∀ (f:Nat) (v2:Int) (s:AS),s.keep [0,1,5] []=some ⟨[(0,.vs v0.length .unk (enc c3 v0)),(1,.i .i64 v1),(5,.i .i64 v2)],[],[(1,tab64)],3⟩→
 evLoop (evC (OV F D) 3 F a113L1) f s K=match Pref08_unlikeL1 F v0 v1 f v2 with|none=>none|some (.inl _)=>K .ret ⟨[(4,.b false)],[],[(1,tab64)],3⟩|some (.inr _)=>K (.ex 0) ⟨[],[],[(1,tab64)],3⟩:=by
 intro f
 induction f with
 |zero=>intro v2 s hs;simp only [evLoop,Pref08_unlikeL1]
 |succ f ih=>
 intro v2 s hs
 obtain ⟨k0,hk,hn,he,hr⟩:=@lk_all (OV F (D)) 3 F a113L1 f K
 rw [loop_succ,hk,a113L1,runC_cut,hs]
 clear hs
 simp only [Pref08_unlikeL1]
 clear hk
 by_cases h1:v2<(v0.length:Int)
 rcases ixo (@pk_c3 v0 v2) with h2|⟨x1,h2⟩
 rotate_left
 by_cases h3:x1<0
 rotate_left
 by_cases h4:x1≥v1
 rotate_left
 simp -implicitDefEqProofs only [*,-ih,runC_loop,EVA.down,ne_eq,seval]
 rw [lref08_unlikeL0 (D) (by omega) F v0 v1 v2 _ F 0 _ (by simp only [*,-ih,EVA.down,ne_eq,seval];try rfl)]
 rcases h5:(Pref08_unlikeL0 v0 v1 v2 F 0) with _|(_|_)
 all_goals simp -implicitDefEqProofs only [*,-ih,EVA.down,ne_eq,seval]
 all_goals exact ih _ _ (by simp only [*,-ih,EVA.down,ne_eq,seval])
theorem eref08_unlike (D:Nat)(hD:0≤D)(F:Nat)(a0:List Int)(a1:Int)(q:Bool):evW 3 (OV F D) F a113 (some [.vs a0.length .unk (enc c3 a0),.i .i64 a1]) q G0 =
 match Pref08_unlike F a0 a1 with|none=>none|some r0=>some (.b r0,none):=by
 rw [evW_some,G0]
 simp only [Pref08_unlike]
 simp -implicitDefEqProofs only [*,a113,runC_loop,EVA.down,ne_eq,seval]
 rw [lref08_unlikeL1 (D) (by omega) F a0 a1 _ F 0 _ (by simp only [*,a113,EVA.down,ne_eq,seval];try rfl)]
 rcases h1:(Pref08_unlikeL1 F a0 a1 F 0) with _|(_|_)
 all_goals simp -implicitDefEqProofs only [*,a113,EVA.down,ne_eq,seval]
theorem vref08_unlike {D F n:Nat}{args:List AV}{h:AHeap}:OV F (D+1) 113 args h n (n+1)=evW 3 (OV F D) F a113 (frzs (frz true 0 (bif AV.nors args then [] else h) 8) args) (AV.nors args) (hglb h 3):=evV_frozen rfl
theorem eref08_Op (D:Nat)(hD:3≤D)(F:Nat)(a0_Kind a0_Gate:Int)(a0_Qubits:List Int)(a0_Bit a0_If a0_When a1 a2:Int)(q:Bool):evW 3 (OV F D) F a98 (some [.agg [.i .i64 a0_Kind,.i .i64 a0_Gate,.vs a0_Qubits.length .unk (enc c3 a0_Qubits),.i .i64 a0_Bit,.i .i64 a0_If,.i .i64 a0_When],.i .i64 a1,.i .i64 a2]) q G0 =
 match Pref08_Op F a0_Kind a0_Gate a0_Qubits a0_Bit a0_If a0_When a1 a2 with|none=>none|some r0=>some (.b r0,none):=by
 obtain ⟨D,rfl⟩:=dex hD
 have cref06_Check0:=eref06_Check (D+2) (by omega) F
 have cref08_unlike0:=eref08_unlike (D+2) (by omega) F
 rw [evW_some,G0]
 simp only [Pref08_Op]
 by_cases h1:a0_If=(((-1):Int))
 replace h1:=eq_true h1
 by_cases h2:a0_Kind=1
 replace h2:=eq_true h2
 rcases h3:(Pref06_Check F a0_Gate a0_Qubits a1) with _|r1
 rotate_left
 by_cases h4:r1=0
 replace h4:=eq_true h4
 by_cases h5:a0_Bit=0
 replace h5:=eq_true h5
 by_cases h6:a0_When=0
 replace h6:=eq_true h6
 rotate_left
 by_cases h7:a0_If≥0
 by_cases h8:a0_If<a2
 rotate_left
 rotate_left
 rotate_left
 rotate_left
 rotate_left
 by_cases h9:a0_Kind=2
 replace h9:=eq_true h9
 by_cases h10:a0_Gate=0
 replace h10:=eq_true h10
 by_cases h11:(a0_Qubits.length:Int)=1
 replace h11:=eq_true h11
 rcases h12:(Pref08_unlike F a0_Qubits a1) with _|r2
 rotate_left
 rcases h13:(r2) with _|_
 rotate_left
 by_cases h14:a0_Bit≥0
 by_cases h15:a0_Bit<a2
 rotate_left
 rotate_left
 rotate_left
 rotate_left
 rotate_left
 by_cases h16:a0_Kind=3
 replace h16:=eq_true h16
 by_cases h17:a0_Gate=0
 replace h17:=eq_true h17
 by_cases h18:(a0_Qubits.length:Int)=1
 replace h18:=eq_true h18
 rcases h19:(Pref08_unlike F a0_Qubits a1) with _|r3
 rotate_left
 rcases h20:(r3) with _|_
 rotate_left
 by_cases h21:a0_Bit=0
 replace h21:=eq_true h21
 rotate_left
 rotate_left
 rotate_left
 rotate_left
 by_cases h22:a0_Kind=4
 replace h22:=eq_true h22
 by_cases h23:a0_Gate=0
 replace h23:=eq_true h23
 by_cases h24:(a0_Qubits.length:Int)>0
 rcases h25:(Pref08_unlike F a0_Qubits a1) with _|r4
 rotate_left
 rcases h26:(r4) with _|_
 rotate_left
 by_cases h27:a0_Bit=0
 replace h27:=eq_true h27
 rotate_left
 rotate_left
 rotate_left
 rotate_left
 rotate_left
 by_cases h28:a0_Kind=1
 replace h28:=eq_true h28
 rcases h29:(Pref06_Check F a0_Gate a0_Qubits a1) with _|r5
 rotate_left
 by_cases h30:r5=0
 replace h30:=eq_true h30
 by_cases h31:a0_Bit=0
 replace h31:=eq_true h31
 by_cases h32:a0_If≥0
 by_cases h33:a0_If<a2
 by_cases h34:a0_When=0
 replace h34:=eq_true h34
 rotate_left
 rotate_left
 rotate_left
 rotate_left
 rotate_left
 rotate_left
 by_cases h35:a0_Kind=2
 replace h35:=eq_true h35
 by_cases h36:a0_Gate=0
 replace h36:=eq_true h36
 by_cases h37:(a0_Qubits.length:Int)=1
 replace h37:=eq_true h37
 rcases h38:(Pref08_unlike F a0_Qubits a1) with _|r6
 rotate_left
 rcases h39:(r6) with _|_
 rotate_left
 by_cases h40:a0_Bit≥0
 by_cases h41:a0_Bit<a2
 rotate_left
 rotate_left
 rotate_left
 rotate_left
 rotate_left
 by_cases h42:a0_Kind=3
 replace h42:=eq_true h42
 by_cases h43:a0_Gate=0
 replace h43:=eq_true h43
 by_cases h44:(a0_Qubits.length:Int)=1
 replace h44:=eq_true h44
 rcases h45:(Pref08_unlike F a0_Qubits a1) with _|r7
 rotate_left
 rcases h46:(r7) with _|_
 rotate_left
 by_cases h47:a0_Bit=0
 replace h47:=eq_true h47
 rotate_left
 rotate_left
 rotate_left
 rotate_left
 by_cases h48:a0_Kind=4
 replace h48:=eq_true h48
 by_cases h49:a0_Gate=0
 replace h49:=eq_true h49
 by_cases h50:(a0_Qubits.length:Int)>0
 rcases h51:(Pref08_unlike F a0_Qubits a1) with _|r8
 rotate_left
 rcases h52:(r8) with _|_
 rotate_left
 by_cases h53:a0_Bit=0
 replace h53:=eq_true h53
 all_goals simp -implicitDefEqProofs only [*,a98,vref06_Check,vref08_unlike,EVA.down,ne_eq,seval]
theorem vref08_Op {D F n:Nat}{args:List AV}{h:AHeap}:OV F (D+1) 98 args h n (n+1)=evW 3 (OV F D) F a98 (frzs (frz true 0 (bif AV.nors args then [] else h) 8) args) (AV.nors args) (hglb h 3):=evV_frozen rfl
theorem lref08_CheckL0 (D:Nat)(hD:4≤D)(F:Nat)(v1 v2:Int)(v3:List S49)(K:AE→AS→Option Res):∀ (f:Nat) (v0:Int) (s:AS),s.keep [1,4] [1]=some ⟨[(1,.lp 1 0),(4,.i .i64 v0)],[(1,[.i .i64 v1,.i .i64 v2,.vs v3.length .unk (enc S49.cs v3)])],[(1,tab64)],3⟩→
 evLoop (evC (OV F D) 3 F a72L0) f s K=match Pref08_CheckL0 F v1 v2 v3 f v0 with|none=>none|some (.inl y0)=>K .ret ⟨[(2,.i .i64 y0),(3,.i .i64 (80))],[],[(1,tab64)],3⟩|some (.inr _)=>K (.ex 0) ⟨[],[],[(1,tab64)],3⟩:=by
 obtain ⟨D,rfl⟩:=dex hD
 have cref08_Op0:=eref08_Op (D+3) (by omega) F
 intro f
 induction f with
 |zero=>intro v0 s hs;simp only [evLoop,Pref08_CheckL0]
 |succ f ih=>
 intro v0 s hs
 obtain ⟨k0,hk,hn,he,hr⟩:=@lk_all (OV F (D+4)) 3 F a72L0 f K
 rw [loop_succ,hk,a72L0,runC_cut,hs]
 clear hs
 simp only [Pref08_CheckL0]
 clear hk
 by_cases h1:v0<(v3.length:Int)
 rcases ixo (@pk_S49_cs v3 v0) with h2|⟨x1,h2⟩
 rotate_left
 rcases h3:(Pref08_Op F x1.f_Kind x1.f_Gate x1.f_Qubits x1.f_Bit x1.f_If x1.f_When v1 v2) with _|r2
 rotate_left
 rcases h4:(r2) with _|_
 all_goals simp -implicitDefEqProofs only [*,-ih,vref08_Op,EVA.down,ne_eq,seval]
 all_goals exact ih _ _ (by simp only [*,-ih,vref08_Op,EVA.down,ne_eq,seval])
theorem eref08_Check (D:Nat)(hD:4≤D)(F:Nat)(a0_Qubits a0_Bits:Int)(a0_Ops:List S49)(q:Bool):evW 3 (OV F D) F a72 (some [.agg [.i .i64 a0_Qubits,.i .i64 a0_Bits,.vs a0_Ops.length .unk (enc S49.cs a0_Ops)]]) q G0 =
 match Pref08_Check F a0_Qubits a0_Bits a0_Ops with|none=>none|some (r0,r1)=>some (.tup [.i .i64 r0,.i .i64 r1],none):=by
 obtain ⟨D,rfl⟩:=dex hD
 rw [evW_some,G0]
 simp only [Pref08_Check]
 by_cases h1:a0_Qubits<0
 rotate_left
 by_cases h2:a0_Qubits>64
 rotate_left
 by_cases h3:a0_Bits<0
 rotate_left
 by_cases h4:a0_Bits>64
 rotate_left
 by_cases h5:(a0_Ops.length:Int)>4096
 rotate_left
 simp -implicitDefEqProofs only [*,a72,runC_loop,EVA.down,ne_eq,seval]
 rw [lref08_CheckL0 (D+4) (by omega) F a0_Qubits a0_Bits a0_Ops _ F 0 _ (by simp only [*,a72,EVA.down,ne_eq,seval];try rfl)]
 rcases h6:(Pref08_CheckL0 F a0_Qubits a0_Bits a0_Ops F 0) with _|(y1|_)
 all_goals simp -implicitDefEqProofs only [*,a72,EVA.down,ne_eq,seval]
theorem vref08_Check {D F n:Nat}{args:List AV}{h:AHeap}:OV F (D+1) 72 args h n (n+1)=evW 3 (OV F D) F a72 (frzs (frz true 0 (bif AV.nors args then [] else h) 8) args) (AV.nors args) (hglb h 3):=evV_frozen rfl
theorem eref08_May (D:Nat)(hD:5≤D)(F:Nat)(a0_Qubits a0_Bits:Int)(a0_Ops:List S49)(q:Bool):evW 3 (OV F D) F a33 (some [.agg [.i .i64 a0_Qubits,.i .i64 a0_Bits,.vs a0_Ops.length .unk (enc S49.cs a0_Ops)]]) q G0 =
 match Pref08_May F a0_Qubits a0_Bits a0_Ops with|none=>none|some r0=>some (.b r0,none):=by
 obtain ⟨D,rfl⟩:=dex hD
 have cref08_Check0:=eref08_Check (D+4) (by omega) F
 rw [evW_some,G0]
 simp only [Pref08_May]
 rcases h1:(Pref08_Check F a0_Qubits a0_Bits a0_Ops) with _|⟨r1,r2⟩
 all_goals simp -implicitDefEqProofs only [*,a33,vref08_Check,EVA.down,ne_eq,seval]
theorem vref08_May {D F n:Nat}{args:List AV}{h:AHeap}:OV F (D+1) 33 args h n (n+1)=evW 3 (OV F D) F a33 (frzs (frz true 0 (bif AV.nors args then [] else h) 8) args) (AV.nors args) (hglb h 3):=evV_frozen rfl
theorem lref08_UnitaryL0 (D:Nat)(hD:0≤D)(F:Nat)(v1 v2:Int)(v3:List S49)(K:AE→AS→Option Res):∀ (f:Nat) (v0:Int) (s:AS),s.keep [1,3] [1]=some ⟨[(1,.lp 1 0),(3,.i .i64 v0)],[(1,[.i .i64 v1,.i .i64 v2,.vs v3.length .unk (enc S49.cs v3)])],[(1,tab64)],3⟩→
 evLoop (evC (OV F D) 3 F a34L0) f s K=match Pref08_UnitaryL0 v1 v2 v3 f v0 with|none=>none|some (.inl _)=>K .ret ⟨[(2,.b false)],[],[(1,tab64)],3⟩|some (.inr _)=>K (.ex 0) ⟨[],[],[(1,tab64)],3⟩:=by
 intro f
 induction f with
 |zero=>intro v0 s hs;simp only [evLoop,Pref08_UnitaryL0]
 |succ f ih=>
 intro v0 s hs
 obtain ⟨k0,hk,hn,he,hr⟩:=@lk_all (OV F (D)) 3 F a34L0 f K
 rw [loop_succ,hk,a34L0,runC_cut,hs]
 clear hs
 simp only [Pref08_UnitaryL0]
 clear hk
 by_cases h1:v0<(v3.length:Int)
 rcases ixo (@pk_S49_cs v3 v0) with h2|⟨x1,h2⟩
 rotate_left
 by_cases h3:x1.f_Kind=4
 replace h3:=eq_true h3
 rotate_left
 by_cases h4:x1.f_Kind=1
 replace h4:=eq_true h4
 by_cases h5:x1.f_If=(((-1):Int))
 replace h5:=eq_true h5
 all_goals simp -implicitDefEqProofs only [*,-ih,EVA.down,ne_eq,seval]
 all_goals exact ih _ _ (by simp only [*,-ih,EVA.down,ne_eq,seval])
theorem eref08_Unitary (D:Nat)(hD:0≤D)(F:Nat)(a0_Qubits a0_Bits:Int)(a0_Ops:List S49)(q:Bool):evW 3 (OV F D) F a34 (some [.agg [.i .i64 a0_Qubits,.i .i64 a0_Bits,.vs a0_Ops.length .unk (enc S49.cs a0_Ops)]]) q G0 =
 match Pref08_Unitary F a0_Qubits a0_Bits a0_Ops with|none=>none|some r0=>some (.b r0,none):=by
 rw [evW_some,G0]
 simp only [Pref08_Unitary]
 simp -implicitDefEqProofs only [*,a34,runC_loop,EVA.down,ne_eq,seval]
 rw [lref08_UnitaryL0 (D) (by omega) F a0_Qubits a0_Bits a0_Ops _ F 0 _ (by simp only [*,a34,EVA.down,ne_eq,seval];try rfl)]
 rcases h1:(Pref08_UnitaryL0 a0_Qubits a0_Bits a0_Ops F 0) with _|(_|_)
 all_goals simp -implicitDefEqProofs only [*,a34,EVA.down,ne_eq,seval]
theorem vref08_Unitary {D F n:Nat}{args:List AV}{h:AHeap}:OV F (D+1) 34 args h n (n+1)=evW 3 (OV F D) F a34 (frzs (frz true 0 (bif AV.nors args then [] else h) 8) args) (AV.nors args) (hglb h 3):=evV_frozen rfl
theorem eref06_Clifford (D:Nat)(hD:0≤D)(F:Nat)(a0:Int)(q:Bool):evW 3 (OV F D) F a73 (some [.i .i64 a0]) q G0 =
 some (.b ((Pref06_Clifford a0)),none):=by
 rw [evW_some,G0]
 simp only [Pref06_Clifford]
 by_cases h1:a0≥1
 all_goals simp -implicitDefEqProofs only [*,a73,EVA.down,ne_eq,seval]
theorem vref06_Clifford {D F n:Nat}{args:List AV}{h:AHeap}:OV F (D+1) 73 args h n (n+1)=evW 3 (OV F D) F a73 (frzs (frz true 0 (bif AV.nors args then [] else h) 8) args) (AV.nors args) (hglb h 3):=evV_frozen rfl
theorem lref08_CliffordL0 (D:Nat)(hD:1≤D)(F:Nat)(v1 v2:Int)(v3:List S49)(K:AE→AS→Option Res):∀ (f:Nat) (v0:Int) (s:AS),s.keep [1,3] [1]=some ⟨[(1,.lp 1 0),(3,.i .i64 v0)],[(1,[.i .i64 v1,.i .i64 v2,.vs v3.length .unk (enc S49.cs v3)])],[(1,tab64)],3⟩→
 evLoop (evC (OV F D) 3 F a35L0) f s K=match Pref08_CliffordL0 v1 v2 v3 f v0 with|none=>none|some (.inl _)=>K .ret ⟨[(2,.b false)],[],[(1,tab64)],3⟩|some (.inr _)=>K (.ex 0) ⟨[],[],[(1,tab64)],3⟩:=by
 obtain ⟨D,rfl⟩:=dex hD
 have cref06_Clifford0:=eref06_Clifford (D) (by omega) F
 intro f
 induction f with
 |zero=>intro v0 s hs;simp only [evLoop,Pref08_CliffordL0]
 |succ f ih=>
 intro v0 s hs
 obtain ⟨k0,hk,hn,he,hr⟩:=@lk_all (OV F (D+1)) 3 F a35L0 f K
 rw [loop_succ,hk,a35L0,runC_cut,hs]
 clear hs
 simp only [Pref08_CliffordL0]
 clear hk
 by_cases h1:v0<(v3.length:Int)
 rcases ixo (@pk_S49_cs v3 v0) with h2|⟨x1,h2⟩
 rotate_left
 by_cases h3:x1.f_Kind=1
 replace h3:=eq_true h3
 rcases h4:((Pref06_Clifford x1.f_Gate)) with _|_
 all_goals simp -implicitDefEqProofs only [*,-ih,vref06_Clifford,EVA.down,ne_eq,seval]
 all_goals exact ih _ _ (by simp only [*,-ih,vref06_Clifford,EVA.down,ne_eq,seval])
theorem eref08_Clifford (D:Nat)(hD:1≤D)(F:Nat)(a0_Qubits a0_Bits:Int)(a0_Ops:List S49)(q:Bool):evW 3 (OV F D) F a35 (some [.agg [.i .i64 a0_Qubits,.i .i64 a0_Bits,.vs a0_Ops.length .unk (enc S49.cs a0_Ops)]]) q G0 =
 match Pref08_Clifford F a0_Qubits a0_Bits a0_Ops with|none=>none|some r0=>some (.b r0,none):=by
 obtain ⟨D,rfl⟩:=dex hD
 rw [evW_some,G0]
 simp only [Pref08_Clifford]
 simp -implicitDefEqProofs only [*,a35,runC_loop,EVA.down,ne_eq,seval]
 rw [lref08_CliffordL0 (D+1) (by omega) F a0_Qubits a0_Bits a0_Ops _ F 0 _ (by simp only [*,a35,EVA.down,ne_eq,seval];try rfl)]
 rcases h1:(Pref08_CliffordL0 a0_Qubits a0_Bits a0_Ops F 0) with _|(_|_)
 all_goals simp -implicitDefEqProofs only [*,a35,EVA.down,ne_eq,seval]
theorem vref08_Clifford {D F n:Nat}{args:List AV}{h:AHeap}:OV F (D+1) 35 args h n (n+1)=evW 3 (OV F D) F a35 (frzs (frz true 0 (bif AV.nors args then [] else h) 8) args) (AV.nors args) (hglb h 3):=evV_frozen rfl
theorem eref13_bit (D:Nat)(hD:0≤D)(F:Nat)(a0:BitVec 64)(a1:Int)(q:Bool):evW 3 (OV F D) F a38 (some [.i .u64 (U a0),.i .i64 a1]) q G0 =
 some (.i .i64 ((Pref13_bit a0 a1)),none):=by
 rw [evW_some,G0]
 skip
 all_goals simp -implicitDefEqProofs only [*,a38,Pref13_bit,EVA.down,ne_eq,seval]
theorem vref13_bit {D F n:Nat}{args:List AV}{h:AHeap}:OV F (D+1) 38 args h n (n+1)=evW 3 (OV F D) F a38 (frzs (frz true 0 (bif AV.nors args then [] else h) 8) args) (AV.nors args) (hglb h 3):=evV_frozen rfl
theorem lref13_RightL0 (D:Nat)(hD:1≤D)(F:Nat)(v1:Int)(v2 v3:BitVec 64)(v4:Int)(K:AE→AS→Option Res):∀ (f:Nat) (v0:Int) (s:AS),s.keep [1,3] [1]=some ⟨[(1,.lp 1 0),(3,.i .i64 v0)],[(1,[.i .i64 v1,.i .u64 (U v2),.i .u64 (U v3),.i .i64 v4])],[(1,tab64)],3⟩→
 evLoop (evC (OV F D) 3 F a18L0) f s K=match Pref13_RightL0 v1 v2 v3 v4 f v0 with|none=>none|some (.inl _)=>K .ret ⟨[(2,.b false)],[],[(1,tab64)],3⟩|some (.inr _)=>K (.ex 0) ⟨[],[],[(1,tab64)],3⟩:=by
 obtain ⟨D,rfl⟩:=dex hD
 have cref13_bit0:=eref13_bit (D) (by omega) F
 intro f
 induction f with
 |zero=>intro v0 s hs;simp only [evLoop,Pref13_RightL0]
 |succ f ih=>
 intro v0 s hs
 obtain ⟨k0,hk,hn,he,hr⟩:=@lk_all (OV F (D+1)) 3 F a18L0 f K
 rw [loop_succ,hk,a18L0,runC_cut,hs]
 clear hs
 simp only [Pref13_RightL0]
 clear hk
 by_cases h1:v0<64
 by_cases h2:(Pref13_bit v2 v0)=1
 replace h2:=eq_true h2
 rotate_left
 by_cases h3:(Pref13_bit v3 v0)=1
 replace h3:=eq_true h3
 all_goals simp -implicitDefEqProofs only [*,-ih,vref13_bit,EVA.down,ne_eq,seval]
 all_goals exact ih _ _ (by simp only [*,-ih,vref13_bit,EVA.down,ne_eq,seval])
theorem eref13_Right (D:Nat)(hD:1≤D)(F:Nat)(a0_N:Int)(a0_X a0_Z:BitVec 64)(a0_Phase:Int)(q:Bool):evW 3 (OV F D) F a18 (some [.agg [.i .i64 a0_N,.i .u64 (U a0_X),.i .u64 (U a0_Z),.i .i64 a0_Phase]]) q G0 =
 match Pref13_Right F a0_N a0_X a0_Z a0_Phase with|none=>none|some r0=>some (.b r0,none):=by
 obtain ⟨D,rfl⟩:=dex hD
 rw [evW_some,G0]
 simp only [Pref13_Right]
 by_cases h1:a0_N<0
 rotate_left
 by_cases h2:a0_N>64
 rotate_left
 by_cases h3:a0_Phase<0
 rotate_left
 by_cases h4:a0_Phase>3
 rotate_left
 simp -implicitDefEqProofs only [*,a18,runC_loop,EVA.down,ne_eq,seval]
 rw [lref13_RightL0 (D+1) (by omega) F a0_N a0_X a0_Z a0_Phase _ F a0_N _ (by simp only [*,a18,EVA.down,ne_eq,seval];try rfl)]
 rcases h5:(Pref13_RightL0 a0_N a0_X a0_Z a0_Phase F a0_N) with _|(_|_)
 all_goals simp -implicitDefEqProofs only [*,a18,EVA.down,ne_eq,seval]
theorem vref13_Right {D F n:Nat}{args:List AV}{h:AHeap}:OV F (D+1) 18 args h n (n+1)=evW 3 (OV F D) F a18 (frzs (frz true 0 (bif AV.nors args then [] else h) 8) args) (AV.nors args) (hglb h 3):=evV_frozen rfl
theorem eref22_carried (D:Nat)(hD:6≤D)(F:Nat)(a0_Qubits a0_Bits:Int)(a0_Ops:List S49)(a1_N:Int)(a1_X a1_Z:BitVec 64)(a1_Phase:Int)(q:Bool):evW 3 (OV F D) F a13 (some [.agg [.i .i64 a0_Qubits,.i .i64 a0_Bits,.vs a0_Ops.length .unk (enc S49.cs a0_Ops)],.agg [.i .i64 a1_N,.i .u64 (U a1_X),.i .u64 (U a1_Z),.i .i64 a1_Phase]]) q G0 =
 match Pref22_carried F a0_Qubits a0_Bits a0_Ops a1_N a1_X a1_Z a1_Phase with|none=>none|some r0=>some (.i .i64 r0,none):=by
 obtain ⟨D,rfl⟩:=dex hD
 have cref13_Right0:=eref13_Right (D+5) (by omega) F
 have cref08_May0:=eref08_May (D+5) (by omega) F
 have cref08_Unitary0:=eref08_Unitary (D+5) (by omega) F
 have cref08_Clifford0:=eref08_Clifford (D+5) (by omega) F
 rw [evW_some,G0]
 simp only [Pref22_carried]
 rcases h1:(Pref08_May F a0_Qubits a0_Bits a0_Ops) with _|r1
 rotate_left
 rcases h2:(r1) with _|_
 rotate_left
 rcases h3:(Pref08_Unitary F a0_Qubits a0_Bits a0_Ops) with _|r2
 rotate_left
 rcases h4:(r2) with _|_
 rotate_left
 rcases h5:(Pref08_Clifford F a0_Qubits a0_Bits a0_Ops) with _|r3
 rotate_left
 rcases h6:(r3) with _|_
 rotate_left
 rcases h7:(Pref13_Right F a1_N a1_X a1_Z a1_Phase) with _|r4
 rotate_left
 rcases h8:(r4) with _|_
 rotate_left
 by_cases h9:a1_N=a0_Qubits
 replace h9:=eq_true h9
 all_goals simp -implicitDefEqProofs only [*,a13,vref13_Right,vref08_May,vref08_Unitary,vref08_Clifford,EVA.down,ne_eq,seval]
theorem vref22_carried {D F n:Nat}{args:List AV}{h:AHeap}:OV F (D+1) 13 args h n (n+1)=evW 3 (OV F D) F a13 (frzs (frz true 0 (bif AV.nors args then [] else h) 8) args) (AV.nors args) (hglb h 3):=evV_frozen rfl
theorem eref13_images (D:Nat)(hD:0≤D)(F:Nat)(a0:Int)(q:Bool):evW 3 (OV F D) F a36 (some [.i .i64 a0]) q G0 =
 some (.vs (((Pref13_images a0)).length) .unk (enc c9 ((Pref13_images a0))),none):=by
 rw [evW_some,G0]
 simp only [Pref13_images]
 by_cases h1:a0=1
 replace h1:=eq_true h1
 rotate_left
 by_cases h2:a0=2
 replace h2:=eq_true h2
 rotate_left
 by_cases h3:a0=3
 replace h3:=eq_true h3
 rotate_left
 by_cases h4:a0=4
 replace h4:=eq_true h4
 rotate_left
 by_cases h5:a0=5
 replace h5:=eq_true h5
 rotate_left
 by_cases h6:a0=6
 replace h6:=eq_true h6
 rotate_left
 by_cases h7:a0=7
 replace h7:=eq_true h7
 rotate_left
 by_cases h8:a0=8
 replace h8:=eq_true h8
 rotate_left
 by_cases h9:a0=9
 replace h9:=eq_true h9
 rotate_left
 by_cases h10:a0=10
 replace h10:=eq_true h10
 rotate_left
 by_cases h11:a0=11
 replace h11:=eq_true h11
 rotate_left
 by_cases h12:a0=12
 replace h12:=eq_true h12
 rotate_left
 by_cases h13:a0=13
 replace h13:=eq_true h13
 rotate_left
 by_cases h14:a0=14
 replace h14:=eq_true h14
 rotate_left
 by_cases h15:a0=15
 replace h15:=eq_true h15
 rotate_left
 by_cases h16:a0=16
 replace h16:=eq_true h16
 rotate_left
 by_cases h17:a0=17
 replace h17:=eq_true h17
 all_goals simp -implicitDefEqProofs only [*,a36,EVA.down,ne_eq,seval]
theorem vref13_images {D F n:Nat}{args:List AV}{h:AHeap}:OV F (D+1) 36 args h n (n+1)=evW 3 (OV F D) F a36 (frzs (frz true 0 (bif AV.nors args then [] else h) 8) args) (AV.nors args) (hglb h 3):=evV_frozen rfl
theorem lref13_ThroughL0 (D:Nat)(hD:0≤D)(F:Nat)(v0:List Int)(v1:List ByteArray)(v3:Int)(v4 v5:BitVec 64)(v6 v7:Int)(v8 v9:BitVec 64)(v10 v11 v14:Int)(K:AE→AS→Option Res):∀ (f:Nat) (v2:Int) (v12 v13:BitVec 64) (s:AS),s.keep [2,3,6,8,9,10] [3,6,9]=some ⟨[(2,.vs v0.length .unk (enc c3 v0)),(3,.lp 3 0),(6,.lp 6 0),(8,.vs v1.length .unk (enc c9 v1)),(9,.lp 9 0),(10,.i .i64 v2)],[(3,[.i .i64 v3,.i .u64 (U v4),.i .u64 (U v5),.i .i64 v6]),(6,[.i .i64 v7,.i .u64 (U v8),.i .u64 (U v9),.i .i64 v10]),(9,[.i .i64 v11,.i .u64 (U v12),.i .u64 (U v13),.i .i64 v14])],[(1,tab64)],3⟩→
 evLoop (evC (OV F D) 3 F a14L0) f s K=match Pref13_ThroughL0 v0 v1 v3 v4 v5 v6 v7 v8 v9 v10 v11 v14 f v2 v12 v13 with|none=>none|some (y0,y1)=>K (.ex 0) ⟨[(2,.vs v0.length .unk (enc c3 v0)),(3,.lp 3 0),(6,.lp 6 0),(8,.vs v1.length .unk (enc c9 v1)),(9,.lp 9 0)],[(3,[.i .i64 v3,.i .u64 (U v4),.i .u64 (U v5),.i .i64 v6]),(6,[.i .i64 v7,.i .u64 (U v8),.i .u64 (U v9),.i .i64 v10]),(9,[.i .i64 v11,.i .u64 (U y0),.i .u64 (U y1),.i .i64 v14])],[(1,tab64)],3⟩:=by
 intro f
 induction f with
 |zero=>intro v2 v12 v13 s hs;simp only [evLoop,Pref13_ThroughL0]
 |succ f ih=>
 intro v2 v12 v13 s hs
 obtain ⟨k0,hk,hn,he,hr⟩:=@lk_all (OV F (D)) 3 F a14L0 f K
 rw [loop_succ,hk,a14L0,runC_cut,hs]
 clear hs
 simp only [Pref13_ThroughL0]
 clear hk
 by_cases h1:v2<(v0.length:Int)
 rcases ixo (@pk_c3 v0 v2) with h2|⟨x1,h2⟩
 all_goals simp -implicitDefEqProofs only [*,-ih,EVA.down,ne_eq,seval]
 all_goals exact ih _ _ _ _ (by simp only [*,-ih,EVA.down,ne_eq,seval])
theorem lref13_lettersL0 (D:Nat)(hD:0≤D)(F:Nat)(v0:ByteArray)(v1:List Int)(v3:Int)(v4 v5:BitVec 64)(v6 v7 v10:Int)(K:AE→AS→Option Res):∀ (f:Nat) (v2:Int) (v8 v9:BitVec 64) (s:AS),s.keep [0,2,6,7,8] [6,7]=some ⟨[(0,.s v0),(2,.vs v1.length .unk (enc c3 v1)),(6,.lp 6 0),(7,.lp 7 0),(8,.i .i64 v2)],[(6,[.i .i64 v3,.i .u64 (U v4),.i .u64 (U v5),.i .i64 v6]),(7,[.i .i64 v7,.i .u64 (U v8),.i .u64 (U v9),.i .i64 v10])],[(1,tab64)],3⟩→
 evLoop (evC (OV F D) 3 F a40L0) f s K=match Pref13_lettersL0 v0 v1 v3 v4 v5 v6 v7 v10 f v2 v8 v9 with|none=>none|some (y0,y1)=>K (.ex 0) ⟨[(6,.lp 6 0),(7,.lp 7 0)],[(6,[.i .i64 v3,.i .u64 (U v4),.i .u64 (U v5),.i .i64 v6]),(7,[.i .i64 v7,.i .u64 (U y0),.i .u64 (U y1),.i .i64 v10])],[(1,tab64)],3⟩:=by
 intro f
 induction f with
 |zero=>intro v2 v8 v9 s hs;simp only [evLoop,Pref13_lettersL0]
 |succ f ih=>
 intro v2 v8 v9 s hs
 obtain ⟨k0,hk,hn,he,hr⟩:=@lk_all (OV F (D)) 3 F a40L0 f K
 rw [loop_succ,hk,a40L0,runC_cut,hs]
 clear hs
 simp only [Pref13_lettersL0]
 clear hk
 by_cases h1:v2<(v1.length:Int)
 rcases h2:(bidx v0 (IntKind.i64.wrap (v2+1))) with _|x1
 rotate_left
 by_cases h3:x1=88
 replace h3:=eq_true h3
 rcases ixo (@pk_c3 v1 v2) with h4|⟨x2,h4⟩
 rotate_left
 by_cases h5:x1=90
 replace h5:=eq_true h5
 rotate_left
 by_cases h6:x1=89
 replace h6:=eq_true h6
 rotate_left
 rotate_left
 by_cases h7:x1=89
 replace h7:=eq_true h7
 rcases ixo (@pk_c3 v1 v2) with h8|⟨x3,h8⟩
 rotate_left
 by_cases h9:x1=90
 replace h9:=eq_true h9
 rotate_left
 rotate_left
 by_cases h10:x1=90
 replace h10:=eq_true h10
 rcases ixo (@pk_c3 v1 v2) with h11|⟨x4,h11⟩
 all_goals simp -implicitDefEqProofs only [*,-ih,EVA.down,ne_eq,seval]
 all_goals exact ih _ _ _ _ (by simp only [*,-ih,EVA.down,ne_eq,seval])
theorem eref13_letters (D:Nat)(hD:0≤D)(F:Nat)(a0:ByteArray)(a1:Int)(a2:List Int)(q:Bool):evW 3 (OV F D) F a40 (some [.s a0,.i .i64 a1,.vs a2.length .unk (enc c3 a2)]) q G0 =
 match Pref13_letters F a0 a1 a2 with|none=>none|some (r0,r1,r2,r3)=>some (.agg [.i .i64 r0,.i .u64 (U r1),.i .u64 (U r2),.i .i64 r3],none):=by
 rw [evW_some,G0]
 simp only [Pref13_letters]
 rcases h1:(bidx a0 0) with _|x1
 rotate_left
 by_cases h2:x1=45
 replace h2:=eq_true h2
 simp -implicitDefEqProofs only [*,a40,runC_loop,EVA.down,ne_eq,seval]
 rw [lref13_lettersL0 (D) (by omega) F a0 a2 0 0#64 0#64 0 a1 2 _ F 0 0#64 0#64 _ (by simp only [*,a40,EVA.down,ne_eq,seval];try rfl)]
 rcases h3:(Pref13_lettersL0 a0 a2 0 0#64 0#64 0 a1 2 F 0 0#64 0#64) with _|⟨y2,y3⟩
 rotate_left
 rotate_left
 simp -implicitDefEqProofs only [*,a40,runC_loop,EVA.down,ne_eq,seval]
 rw [lref13_lettersL0 (D) (by omega) F a0 a2 0 0#64 0#64 0 a1 0 _ F 0 0#64 0#64 _ (by simp only [*,a40,EVA.down,ne_eq,seval];try rfl)]
 rcases h4:(Pref13_lettersL0 a0 a2 0 0#64 0#64 0 a1 0 F 0 0#64 0#64) with _|⟨y4,y5⟩
 all_goals simp -implicitDefEqProofs only [*,a40,EVA.down,ne_eq,seval]
theorem vref13_letters {D F n:Nat}{args:List AV}{h:AHeap}:OV F (D+1) 40 args h n (n+1)=evW 3 (OV F D) F a40 (frzs (frz true 0 (bif AV.nors args then [] else h) 8) args) (AV.nors args) (hglb h 3):=evV_frozen rfl
theorem eref13_Letter (D:Nat)(hD:2≤D)(F:Nat)(a0_N:Int)(a0_X a0_Z:BitVec 64)(a0_Phase a1:Int)(q:Bool):evW 3 (OV F D) F a76 (some [.agg [.i .i64 a0_N,.i .u64 (U a0_X),.i .u64 (U a0_Z),.i .i64 a0_Phase],.i .i64 a1]) q G0 =
 match Pref13_Letter F a0_N a0_X a0_Z a0_Phase a1 with|none=>none|some r0=>some (.i .u8 (r0),none):=by
 obtain ⟨D,rfl⟩:=dex hD
 have cref13_Right0:=eref13_Right (D+1) (by omega) F
 have cref13_bit0:=eref13_bit (D+1) (by omega) F
 rw [evW_some,G0]
 simp only [Pref13_Letter]
 rcases h1:(Pref13_Right F a0_N a0_X a0_Z a0_Phase) with _|r1
 rotate_left
 rcases h2:(r1) with _|_
 rotate_left
 by_cases h3:a1<0
 rotate_left
 by_cases h4:a1≥a0_N
 rotate_left
 by_cases h5:(IntKind.i64.wrap ((IntKind.i64.wrap (2*(Pref13_bit a0_X a1)))+(Pref13_bit a0_Z a1)))=1
 replace h5:=eq_true h5
 rotate_left
 by_cases h6:(IntKind.i64.wrap ((IntKind.i64.wrap (2*(Pref13_bit a0_X a1)))+(Pref13_bit a0_Z a1)))=2
 replace h6:=eq_true h6
 rotate_left
 by_cases h7:(IntKind.i64.wrap ((IntKind.i64.wrap (2*(Pref13_bit a0_X a1)))+(Pref13_bit a0_Z a1)))=3
 replace h7:=eq_true h7
 all_goals simp -implicitDefEqProofs only [*,a76,vref13_Right,vref13_bit,EVA.down,ne_eq,seval]
theorem vref13_Letter {D F n:Nat}{args:List AV}{h:AHeap}:OV F (D+1) 76 args h n (n+1)=evW 3 (OV F D) F a76 (frzs (frz true 0 (bif AV.nors args then [] else h) 8) args) (AV.nors args) (hglb h 3):=evV_frozen rfl
theorem eref13_one (D:Nat)(hD:0≤D)(F:Nat)(a0 a1:Int)(q:Bool):evW 3 (OV F D) F a75 (some [.i .u8 (a0),.i .u8 (a1)]) q G0 =
 some (.i .i64 ((Pref13_one a0 a1)),none):=by
 rw [evW_some,G0]
 simp only [Pref13_one]
 by_cases h1:a0=73
 replace h1:=eq_true h1
 rotate_left
 by_cases h2:a1=73
 replace h2:=eq_true h2
 rotate_left
 by_cases h3:a0=a1
 replace h3:=eq_true h3
 rotate_left
 by_cases h4:a0=88
 replace h4:=eq_true h4
 by_cases h5:a1=89
 replace h5:=eq_true h5
 rotate_left
 by_cases h6:a0=89
 replace h6:=eq_true h6
 by_cases h7:a1=90
 replace h7:=eq_true h7
 rotate_left
 by_cases h8:a0=90
 replace h8:=eq_true h8
 by_cases h9:a1=88
 replace h9:=eq_true h9
 rotate_left
 rotate_left
 rotate_left
 by_cases h10:a0=90
 replace h10:=eq_true h10
 by_cases h11:a1=88
 replace h11:=eq_true h11
 rotate_left
 rotate_left
 rotate_left
 by_cases h12:a0=89
 replace h12:=eq_true h12
 by_cases h13:a1=90
 replace h13:=eq_true h13
 rotate_left
 by_cases h14:a0=90
 replace h14:=eq_true h14
 by_cases h15:a1=88
 replace h15:=eq_true h15
 rotate_left
 rotate_left
 rotate_left
 by_cases h16:a0=90
 replace h16:=eq_true h16
 by_cases h17:a1=88
 replace h17:=eq_true h17
 all_goals simp -implicitDefEqProofs only [*,a75,EVA.down,ne_eq,seval]
theorem vref13_one {D F n:Nat}{args:List AV}{h:AHeap}:OV F (D+1) 75 args h n (n+1)=evW 3 (OV F D) F a75 (frzs (frz true 0 (bif AV.nors args then [] else h) 8) args) (AV.nors args) (hglb h 3):=evV_frozen rfl
theorem lref13_MulL0 (D:Nat)(hD:3≤D)(F:Nat)(v1:Int)(v2 v3:BitVec 64)(v4 v5:Int)(v6 v7:BitVec 64)(v8 v9:Int)(v10 v11:BitVec 64)(v12 v13:Int)(v14 v15:BitVec 64)(K:AE→AS→Option Res):∀ (f:Nat) (v0 v16:Int) (s:AS),s.keep [2,3,4,6,7] [2,3,4,6]=some ⟨[(2,.lp 2 0),(3,.lp 3 0),(4,.lp 4 0),(6,.lp 6 0),(7,.i .i64 v0)],[(2,[.i .i64 v1,.i .u64 (U v2),.i .u64 (U v3),.i .i64 v4]),(3,[.i .i64 v5,.i .u64 (U v6),.i .u64 (U v7),.i .i64 v8]),(4,[.i .i64 v9,.i .u64 (U v10),.i .u64 (U v11),.i .i64 v12]),(6,[.i .i64 v13,.i .u64 (U v14),.i .u64 (U v15),.i .i64 v16])],[(1,tab64)],3⟩→
 evLoop (evC (OV F D) 3 F a39L0) f s K=match Pref13_MulL0 F v1 v2 v3 v4 v5 v6 v7 v8 v9 v10 v11 v12 v13 v14 v15 f v0 v16 with|none=>none|some (y0)=>K (.ex 0) ⟨[(4,.lp 4 0),(6,.lp 6 0)],[(4,[.i .i64 v9,.i .u64 (U v10),.i .u64 (U v11),.i .i64 v12]),(6,[.i .i64 v13,.i .u64 (U v14),.i .u64 (U v15),.i .i64 y0])],[(1,tab64)],3⟩:=by
 obtain ⟨D,rfl⟩:=dex hD
 have cref13_one0:=eref13_one (D+2) (by omega) F
 have cref13_Letter0:=eref13_Letter (D+2) (by omega) F
 intro f
 induction f with
 |zero=>intro v0 v16 s hs;simp only [evLoop,Pref13_MulL0]
 |succ f ih=>
 intro v0 v16 s hs
 obtain ⟨k0,hk,hn,he,hr⟩:=@lk_all (OV F (D+3)) 3 F a39L0 f K
 rw [loop_succ,hk,a39L0,runC_cut,hs]
 clear hs
 simp only [Pref13_MulL0]
 clear hk
 by_cases h1:v0<v1
 rcases h2:(Pref13_Letter F v1 v2 v3 v4 v0) with _|r1
 rotate_left
 rcases h3:(Pref13_Letter F v5 v6 v7 v8 v0) with _|r2
 all_goals simp -implicitDefEqProofs only [*,-ih,vref13_one,vref13_Letter,EVA.down,ne_eq,seval]
 all_goals exact ih _ _ _ (by simp only [*,-ih,vref13_one,vref13_Letter,EVA.down,ne_eq,seval])
theorem eref13_Mul (D:Nat)(hD:3≤D)(F:Nat)(a0_N:Int)(a0_X a0_Z:BitVec 64)(a0_Phase a1_N:Int)(a1_X a1_Z:BitVec 64)(a1_Phase:Int)(q:Bool):evW 3 (OV F D) F a39 (some [.agg [.i .i64 a0_N,.i .u64 (U a0_X),.i .u64 (U a0_Z),.i .i64 a0_Phase],.agg [.i .i64 a1_N,.i .u64 (U a1_X),.i .u64 (U a1_Z),.i .i64 a1_Phase]]) q G0 =
 match Pref13_Mul F a0_N a0_X a0_Z a0_Phase a1_N a1_X a1_Z a1_Phase with|none=>none|some (r0,r1,r2,r3,r4)=>some (.tup [.agg [.i .i64 r0,.i .u64 (U r1),.i .u64 (U r2),.i .i64 r3],.i .i64 r4],none):=by
 obtain ⟨D,rfl⟩:=dex hD
 have cref13_Right0:=eref13_Right (D+2) (by omega) F
 rw [evW_some,G0]
 simp only [Pref13_Mul]
 rcases h1:(Pref13_Right F a0_N a0_X a0_Z a0_Phase) with _|r1
 rotate_left
 rcases h2:(r1) with _|_
 rotate_left
 rcases h3:(Pref13_Right F a1_N a1_X a1_Z a1_Phase) with _|r2
 rotate_left
 rcases h4:(r2) with _|_
 rotate_left
 by_cases h5:a0_N=a1_N
 replace h5:=eq_true h5
 simp -implicitDefEqProofs only [*,a39,vref13_Right,runC_loop,EVA.down,ne_eq,seval]
 rw [lref13_MulL0 (D+3) (by omega) F a0_N a0_X a0_Z a0_Phase a1_N a1_X a1_Z a1_Phase 0 0#64 0#64 0 a0_N (a0_X ^^^ a1_X) (a0_Z ^^^ a1_Z) _ F 0 (IntKind.i64.wrap (a0_Phase+a1_Phase)) _ (by simp only [*,a39,vref13_Right,EVA.down,ne_eq,seval];try rfl)]
 rcases h6:(Pref13_MulL0 F a0_N a0_X a0_Z a0_Phase a1_N a1_X a1_Z a1_Phase 0 0#64 0#64 0 a0_N (a0_X ^^^ a1_X) (a0_Z ^^^ a1_Z) F 0 (IntKind.i64.wrap (a0_Phase+a1_Phase))) with _|y3
 all_goals simp -implicitDefEqProofs only [*,a39,vref13_Right,EVA.down,ne_eq,seval]
theorem vref13_Mul {D F n:Nat}{args:List AV}{h:AHeap}:OV F (D+1) 39 args h n (n+1)=evW 3 (OV F D) F a39 (frzs (frz true 0 (bif AV.nors args then [] else h) 8) args) (AV.nors args) (hglb h 3):=evV_frozen rfl
theorem lref13_ThroughL1 (D:Nat)(hD:4≤D)(F:Nat)(v0:List Int)(v1:List ByteArray)(v3:Int)(v4 v5:BitVec 64)(v6 v7:Int)(v8 v9:BitVec 64)(v10:Int)(K:AE→AS→Option Res):∀ (f:Nat) (v2 v11:Int) (v12 v13:BitVec 64) (v14:Int) (s:AS),s.keep [2,3,6,8,9,11] [3,6,9]=some ⟨[(2,.vs v0.length .unk (enc c3 v0)),(3,.lp 3 0),(6,.lp 6 0),(8,.vs v1.length .unk (enc c9 v1)),(9,.lp 9 0),(11,.i .i64 v2)],[(3,[.i .i64 v3,.i .u64 (U v4),.i .u64 (U v5),.i .i64 v6]),(6,[.i .i64 v7,.i .u64 (U v8),.i .u64 (U v9),.i .i64 v10]),(9,[.i .i64 v11,.i .u64 (U v12),.i .u64 (U v13),.i .i64 v14])],[(1,tab64)],3⟩→
 evLoop (evC (OV F D) 3 F a14L1) f s K=match Pref13_ThroughL1 F v0 v1 v3 v4 v5 v6 v7 v8 v9 v10 f v2 v11 v12 v13 v14 with|none=>none|some (y0,y1,y2,y3)=>K (.ex 2) ⟨[(6,.lp 6 0),(9,.lp 9 0)],[(6,[.i .i64 v7,.i .u64 (U v8),.i .u64 (U v9),.i .i64 v10]),(9,[.i .i64 y0,.i .u64 (U y1),.i .u64 (U y2),.i .i64 y3])],[(1,tab64)],3⟩:=by
 obtain ⟨D,rfl⟩:=dex hD
 have cref13_bit0:=eref13_bit (D+3) (by omega) F
 have cref13_Mul0:=eref13_Mul (D+3) (by omega) F
 have cref13_letters0:=eref13_letters (D+3) (by omega) F
 intro f
 induction f with
 |zero=>intro v2 v11 v12 v13 v14 s hs;simp only [evLoop,Pref13_ThroughL1]
 |succ f ih=>
 intro v2 v11 v12 v13 v14 s hs
 obtain ⟨k0,hk,hn,he,hr⟩:=@lk_all (OV F (D+4)) 3 F a14L1 f K
 rw [loop_succ,hk,a14L1,runC_cut,hs]
 clear hs
 simp only [Pref13_ThroughL1]
 clear hk
 by_cases h1:v2<(v0.length:Int)
 rcases ixo (@pk_c3 v0 v2) with h2|⟨x1,h2⟩
 rotate_left
 by_cases h3:(Pref13_bit v4 x1)=1
 replace h3:=eq_true h3
 rcases ixo (@pk_c9 v1 (IntKind.i64.wrap (2*v2))) with h4|⟨x2,h4⟩
 rotate_left
 rcases h5:(Pref13_letters F x2 v3 v0) with _|⟨r3,r4,r5,r6⟩
 rotate_left
 rcases h6:(Pref13_Mul F v11 v12 v13 v14 r3 r4 r5 r6) with _|⟨r7,r8,r9,r10,r11⟩
 rotate_left
 by_cases h7:(Pref13_bit v5 x1)=1
 replace h7:=eq_true h7
 rcases ixo (@pk_c9 v1 (IntKind.i64.wrap ((IntKind.i64.wrap (2*v2))+1))) with h8|⟨x12,h8⟩
 rotate_left
 rcases h9:(Pref13_letters F x12 v3 v0) with _|⟨r13,r14,r15,r16⟩
 rotate_left
 rcases h10:(Pref13_Mul F r7 r8 r9 r10 r13 r14 r15 r16) with _|⟨r17,r18,r19,r20,r21⟩
 rotate_left
 rotate_left
 rotate_left
 by_cases h11:(Pref13_bit v5 x1)=1
 replace h11:=eq_true h11
 rcases ixo (@pk_c9 v1 (IntKind.i64.wrap ((IntKind.i64.wrap (2*v2))+1))) with h12|⟨x22,h12⟩
 rotate_left
 rcases h13:(Pref13_letters F x22 v3 v0) with _|⟨r23,r24,r25,r26⟩
 rotate_left
 rcases h14:(Pref13_Mul F v11 v12 v13 v14 r23 r24 r25 r26) with _|⟨r27,r28,r29,r30,r31⟩
 all_goals simp -implicitDefEqProofs only [*,-ih,vref13_bit,vref13_Mul,vref13_letters,EVA.down,ne_eq,seval]
 all_goals exact ih _ _ _ _ _ _ (by simp only [*,-ih,vref13_bit,vref13_Mul,vref13_letters,EVA.down,ne_eq,seval])
theorem eref13_Through (D:Nat)(hD:4≤D)(F:Nat)(a0_N:Int)(a0_X a0_Z:BitVec 64)(a0_Phase a1:Int)(a2:List Int)(q:Bool):evW 3 (OV F D) F a14 (some [.agg [.i .i64 a0_N,.i .u64 (U a0_X),.i .u64 (U a0_Z),.i .i64 a0_Phase],.i .i64 a1,.vs a2.length .unk (enc c3 a2)]) q G0 =
 match Pref13_Through F a0_N a0_X a0_Z a0_Phase a1 a2 with|none=>none|some (r0,r1,r2,r3,r4)=>some (.tup [.agg [.i .i64 r0,.i .u64 (U r1),.i .u64 (U r2),.i .i64 r3],.i .i64 r4],none):=by
 obtain ⟨D,rfl⟩:=dex hD
 have cref13_Right0:=eref13_Right (D+3) (by omega) F
 have cref13_images0:=eref13_images (D+3) (by omega) F
 have cref06_Check0:=eref06_Check (D+3) (by omega) F
 rw [evW_some,G0]
 simp only [Pref13_Through]
 rcases h1:(Pref13_Right F a0_N a0_X a0_Z a0_Phase) with _|r1
 rotate_left
 rcases h2:(r1) with _|_
 rotate_left
 by_cases h3:((((Pref13_images a1)).length:Int))=0
 replace h3:=eq_true h3
 rotate_left
 rcases h4:(Pref06_Check F a1 a2 a0_N) with _|r2
 rotate_left
 by_cases h5:r2=0
 replace h5:=eq_true h5
 simp -implicitDefEqProofs only [*,a14,vref13_Right,vref13_images,vref06_Check,runC_loop,EVA.down,ne_eq,seval]
 rw [lref13_ThroughL0 (D+4) (by omega) F a2 (Pref13_images a1) a0_N a0_X a0_Z a0_Phase 0 0#64 0#64 0 a0_N a0_Phase _ F 0 a0_X a0_Z _ (by simp only [*,a14,vref13_Right,vref13_images,vref06_Check,EVA.down,ne_eq,seval];try rfl)]
 rcases h6:(Pref13_ThroughL0 a2 (Pref13_images a1) a0_N a0_X a0_Z a0_Phase 0 0#64 0#64 0 a0_N a0_Phase F 0 a0_X a0_Z) with _|⟨y3,y4⟩
 rotate_left
 simp -implicitDefEqProofs only [*,a14,vref13_Right,vref13_images,vref06_Check,runC_loop,EVA.down,ne_eq,seval]
 rw [lref13_ThroughL1 (D+4) (by omega) F a2 (Pref13_images a1) a0_N a0_X a0_Z a0_Phase 0 0#64 0#64 0 _ F 0 a0_N y3 y4 a0_Phase _ (by simp only [*,a14,vref13_Right,vref13_images,vref06_Check,EVA.down,ne_eq,seval];try rfl)]
 rcases h7:(Pref13_ThroughL1 F a2 (Pref13_images a1) a0_N a0_X a0_Z a0_Phase 0 0#64 0#64 0 F 0 a0_N y3 y4 a0_Phase) with _|⟨y5,y6,y7,y8⟩
 all_goals simp -implicitDefEqProofs only [*,a14,vref13_Right,vref13_images,vref06_Check,EVA.down,ne_eq,seval]
theorem vref13_Through {D F n:Nat}{args:List AV}{h:AHeap}:OV F (D+1) 14 args h n (n+1)=evW 3 (OV F D) F a14 (frzs (frz true 0 (bif AV.nors args then [] else h) 8) args) (AV.nors args) (hglb h 3):=evV_frozen rfl
theorem lref22_ForthL0 (D:Nat)(hD:5≤D)(F:Nat)(v1 v2:Int)(v3:List S49)(v8:Int)(v9 v10:BitVec 64)(v11:Int)(K:AE→AS→Option Res):∀ (f:Nat) (v0 v4:Int) (v5 v6:BitVec 64) (v7:Int) (s:AS),s.keep [2,3,4,7] [2,3,4]=some ⟨[(2,.lp 2 0),(3,.lp 3 0),(4,.lp 4 0),(7,.i .i64 v0)],[(2,[.i .i64 v1,.i .i64 v2,.vs v3.length .unk (enc S49.cs v3)]),(3,[.i .i64 v4,.i .u64 (U v5),.i .u64 (U v6),.i .i64 v7]),(4,[.i .i64 v8,.i .u64 (U v9),.i .u64 (U v10),.i .i64 v11])],[(1,tab64)],3⟩→
 evLoop (evC (OV F D) 3 F a5L0) f s K=match Pref22_ForthL0 F v1 v2 v3 v8 v9 v10 v11 f v0 v4 v5 v6 v7 with|none=>none|some (y0,y1,y2,y3)=>K (.ex 0) ⟨[(3,.lp 3 0),(4,.lp 4 0)],[(3,[.i .i64 y0,.i .u64 (U y1),.i .u64 (U y2),.i .i64 y3]),(4,[.i .i64 v8,.i .u64 (U v9),.i .u64 (U v10),.i .i64 v11])],[(1,tab64)],3⟩:=by
 obtain ⟨D,rfl⟩:=dex hD
 have cref13_Through0:=eref13_Through (D+4) (by omega) F
 intro f
 induction f with
 |zero=>intro v0 v4 v5 v6 v7 s hs;simp only [evLoop,Pref22_ForthL0]
 |succ f ih=>
 intro v0 v4 v5 v6 v7 s hs
 obtain ⟨k0,hk,hn,he,hr⟩:=@lk_all (OV F (D+5)) 3 F a5L0 f K
 rw [loop_succ,hk,a5L0,runC_cut,hs]
 clear hs
 simp only [Pref22_ForthL0]
 clear hk
 by_cases h1:v0<(v3.length:Int)
 rcases ixo (@pk_S49_cs v3 v0) with h2|⟨x1,h2⟩
 rotate_left
 by_cases h3:x1.f_Kind=1
 replace h3:=eq_true h3
 rcases h4:(Pref13_Through F v4 v5 v6 v7 x1.f_Gate x1.f_Qubits) with _|⟨r2,r3,r4,r5,r6⟩
 all_goals simp -implicitDefEqProofs only [*,-ih,vref13_Through,EVA.down,ne_eq,seval]
 all_goals exact ih _ _ _ _ _ _ (by simp only [*,-ih,vref13_Through,EVA.down,ne_eq,seval])
theorem eref22_Forth (D:Nat)(hD:7≤D)(F:Nat)(a0_Qubits a0_Bits:Int)(a0_Ops:List S49)(a1_N:Int)(a1_X a1_Z:BitVec 64)(a1_Phase:Int)(q:Bool):evW 3 (OV F D) F a5 (some [.agg [.i .i64 a0_Qubits,.i .i64 a0_Bits,.vs a0_Ops.length .unk (enc S49.cs a0_Ops)],.agg [.i .i64 a1_N,.i .u64 (U a1_X),.i .u64 (U a1_Z),.i .i64 a1_Phase]]) q G0 =
 match Pref22_Forth F a0_Qubits a0_Bits a0_Ops a1_N a1_X a1_Z a1_Phase with|none=>none|some (r0,r1,r2,r3,r4)=>some (.tup [.agg [.i .i64 r0,.i .u64 (U r1),.i .u64 (U r2),.i .i64 r3],.i .i64 r4],none):=by
 obtain ⟨D,rfl⟩:=dex hD
 have cref22_carried0:=eref22_carried (D+6) (by omega) F
 rw [evW_some,G0]
 simp only [Pref22_Forth]
 rcases h1:(Pref22_carried F a0_Qubits a0_Bits a0_Ops a1_N a1_X a1_Z a1_Phase) with _|r1
 rotate_left
 by_cases h2:r1=0
 replace h2:=eq_true h2
 simp -implicitDefEqProofs only [*,a5,vref22_carried,runC_loop,EVA.down,ne_eq,seval]
 rw [lref22_ForthL0 (D+7) (by omega) F a0_Qubits a0_Bits a0_Ops 0 0#64 0#64 0 _ F 0 a1_N a1_X a1_Z a1_Phase _ (by simp only [*,a5,vref22_carried,EVA.down,ne_eq,seval];try rfl)]
 rcases h3:(Pref22_ForthL0 F a0_Qubits a0_Bits a0_Ops 0 0#64 0#64 0 F 0 a1_N a1_X a1_Z a1_Phase) with _|⟨y2,y3,y4,y5⟩
 all_goals simp -implicitDefEqProofs only [*,a5,vref22_carried,EVA.down,ne_eq,seval]
theorem vref22_Forth {D F n:Nat}{args:List AV}{h:AHeap}:OV F (D+1) 5 args h n (n+1)=evW 3 (OV F D) F a5 (frzs (frz true 0 (bif AV.nors args then [] else h) 8) args) (AV.nors args) (hglb h 3):=evV_frozen rfl
theorem eexpect_Back (D:Nat)(hD:7≤D)(F:Nat)(a0_Qubits a0_Bits:Int)(a0_Ops:List S49)(a1_N:Int)(a1_X a1_Z:BitVec 64)(a1_Phase:Int)(q:Bool):evW 3 (OV F D) F a6 (some [.agg [.i .i64 a0_Qubits,.i .i64 a0_Bits,.vs a0_Ops.length .unk (enc S49.cs a0_Ops)],.agg [.i .i64 a1_N,.i .u64 (U a1_X),.i .u64 (U a1_Z),.i .i64 a1_Phase]]) q G0 =
 match Pexpect_Back F a0_Qubits a0_Bits a0_Ops a1_N a1_X a1_Z a1_Phase with|none=>none|some (r0,r1,r2,r3,r4)=>some (.tup [.agg [.i .i64 r0,.i .u64 (U r1),.i .u64 (U r2),.i .i64 r3],.i .i64 r4],none):=by
 obtain ⟨D,rfl⟩:=dex hD
 have cexpect_carried0:=eexpect_carried (D+6) (by omega) F
 rw [evW_some,G0]
 simp only [Pexpect_Back]
 rcases h1:(Pexpect_carried F a0_Qubits a0_Bits a0_Ops a1_N a1_X a1_Z a1_Phase true) with _|⟨r1,r2,r3,r4,r5⟩
 all_goals simp -implicitDefEqProofs only [*,a6,vexpect_carried,EVA.down,ne_eq,seval]
theorem vexpect_Back {D F n:Nat}{args:List AV}{h:AHeap}:OV F (D+1) 6 args h n (n+1)=evW 3 (OV F D) F a6 (frzs (frz true 0 (bif AV.nors args then [] else h) 8) args) (AV.nors args) (hglb h 3):=evV_frozen rfl
theorem eref06_Inverse (D:Nat)(hD:1≤D)(F:Nat)(a0:Int)(q:Bool):evW 3 (OV F D) F a15 (some [.i .i64 a0]) q G0 =
 some (.i .i64 ((Pref06_Inverse a0)),none):=by
 obtain ⟨D,rfl⟩:=dex hD
 have cref06_Is0:=eref06_Is (D) (by omega) F
 rw [evW_some,G0]
 simp only [Pref06_Inverse]
 by_cases h1:a0=5
 replace h1:=eq_true h1
 rotate_left
 by_cases h2:a0=7
 replace h2:=eq_true h2
 rotate_left
 by_cases h3:a0=9
 replace h3:=eq_true h3
 rotate_left
 by_cases h4:a0=15
 replace h4:=eq_true h4
 rotate_left
 by_cases h5:a0=6
 replace h5:=eq_true h5
 rotate_left
 by_cases h6:a0=8
 replace h6:=eq_true h6
 rotate_left
 by_cases h7:a0=10
 replace h7:=eq_true h7
 rotate_left
 by_cases h8:a0=16
 replace h8:=eq_true h8
 rotate_left
 rcases h9:((Pref06_Is a0)) with _|_
 all_goals simp -implicitDefEqProofs only [*,a15,vref06_Is,EVA.down,ne_eq,seval]
theorem vref06_Inverse {D F n:Nat}{args:List AV}{h:AHeap}:OV F (D+1) 15 args h n (n+1)=evW 3 (OV F D) F a15 (frzs (frz true 0 (bif AV.nors args then [] else h) 8) args) (AV.nors args) (hglb h 3):=evV_frozen rfl
theorem lref22_BackL0 (D:Nat)(hD:5≤D)(F:Nat)(v1 v2:Int)(v3:List S49)(v8:Int)(v9 v10:BitVec 64)(v11:Int)(K:AE→AS→Option Res):∀ (f:Nat) (v0 v4:Int) (v5 v6:BitVec 64) (v7:Int) (s:AS),s.keep [2,3,4,7] [2,3,4]=some ⟨[(2,.lp 2 0),(3,.lp 3 0),(4,.lp 4 0),(7,.i .i64 v0)],[(2,[.i .i64 v1,.i .i64 v2,.vs v3.length .unk (enc S49.cs v3)]),(3,[.i .i64 v4,.i .u64 (U v5),.i .u64 (U v6),.i .i64 v7]),(4,[.i .i64 v8,.i .u64 (U v9),.i .u64 (U v10),.i .i64 v11])],[(1,tab64)],3⟩→
 evLoop (evC (OV F D) 3 F a7L0) f s K=match Pref22_BackL0 F v1 v2 v3 v8 v9 v10 v11 f v0 v4 v5 v6 v7 with|none=>none|some (y0,y1,y2,y3)=>K (.ex 0) ⟨[(3,.lp 3 0),(4,.lp 4 0)],[(3,[.i .i64 y0,.i .u64 (U y1),.i .u64 (U y2),.i .i64 y3]),(4,[.i .i64 v8,.i .u64 (U v9),.i .u64 (U v10),.i .i64 v11])],[(1,tab64)],3⟩:=by
 obtain ⟨D,rfl⟩:=dex hD
 have cref13_Through0:=eref13_Through (D+4) (by omega) F
 have cref06_Inverse0:=eref06_Inverse (D+4) (by omega) F
 intro f
 induction f with
 |zero=>intro v0 v4 v5 v6 v7 s hs;simp only [evLoop,Pref22_BackL0]
 |succ f ih=>
 intro v0 v4 v5 v6 v7 s hs
 obtain ⟨k0,hk,hn,he,hr⟩:=@lk_all (OV F (D+5)) 3 F a7L0 f K
 rw [loop_succ,hk,a7L0,runC_cut,hs]
 clear hs
 simp only [Pref22_BackL0]
 clear hk
 by_cases h1:v0≥0
 rcases ixo (@pk_S49_cs v3 v0) with h2|⟨x1,h2⟩
 rotate_left
 by_cases h3:x1.f_Kind=1
 replace h3:=eq_true h3
 rcases h4:(Pref13_Through F v4 v5 v6 v7 (Pref06_Inverse x1.f_Gate) x1.f_Qubits) with _|⟨r2,r3,r4,r5,r6⟩
 all_goals simp -implicitDefEqProofs only [*,-ih,vref13_Through,vref06_Inverse,EVA.down,ne_eq,seval]
 all_goals exact ih _ _ _ _ _ _ (by simp only [*,-ih,vref13_Through,vref06_Inverse,EVA.down,ne_eq,seval])
theorem eref22_Back (D:Nat)(hD:7≤D)(F:Nat)(a0_Qubits a0_Bits:Int)(a0_Ops:List S49)(a1_N:Int)(a1_X a1_Z:BitVec 64)(a1_Phase:Int)(q:Bool):evW 3 (OV F D) F a7 (some [.agg [.i .i64 a0_Qubits,.i .i64 a0_Bits,.vs a0_Ops.length .unk (enc S49.cs a0_Ops)],.agg [.i .i64 a1_N,.i .u64 (U a1_X),.i .u64 (U a1_Z),.i .i64 a1_Phase]]) q G0 =
 match Pref22_Back F a0_Qubits a0_Bits a0_Ops a1_N a1_X a1_Z a1_Phase with|none=>none|some (r0,r1,r2,r3,r4)=>some (.tup [.agg [.i .i64 r0,.i .u64 (U r1),.i .u64 (U r2),.i .i64 r3],.i .i64 r4],none):=by
 obtain ⟨D,rfl⟩:=dex hD
 have cref22_carried0:=eref22_carried (D+6) (by omega) F
 rw [evW_some,G0]
 simp only [Pref22_Back]
 rcases h1:(Pref22_carried F a0_Qubits a0_Bits a0_Ops a1_N a1_X a1_Z a1_Phase) with _|r1
 rotate_left
 by_cases h2:r1=0
 replace h2:=eq_true h2
 simp -implicitDefEqProofs only [*,a7,vref22_carried,runC_loop,EVA.down,ne_eq,seval]
 rw [lref22_BackL0 (D+7) (by omega) F a0_Qubits a0_Bits a0_Ops 0 0#64 0#64 0 _ F (IntKind.i64.wrap ((a0_Ops.length:Int)-1)) a1_N a1_X a1_Z a1_Phase _ (by simp only [*,a7,vref22_carried,EVA.down,ne_eq,seval];try rfl)]
 rcases h3:(Pref22_BackL0 F a0_Qubits a0_Bits a0_Ops 0 0#64 0#64 0 F (IntKind.i64.wrap ((a0_Ops.length:Int)-1)) a1_N a1_X a1_Z a1_Phase) with _|⟨y2,y3,y4,y5⟩
 all_goals simp -implicitDefEqProofs only [*,a7,vref22_carried,EVA.down,ne_eq,seval]
theorem vref22_Back {D F n:Nat}{args:List AV}{h:AHeap}:OV F (D+1) 7 args h n (n+1)=evW 3 (OV F D) F a7 (frzs (frz true 0 (bif AV.nors args then [] else h) 8) args) (AV.nors args) (hglb h 3):=evV_frozen rfl
theorem epauli_Hermitian (D:Nat)(hD:2≤D)(F:Nat)(a0_N:Int)(a0_X a0_Z:BitVec 64)(a0_Phase:Int)(q:Bool):evW 3 (OV F D) F a43 (some [.agg [.i .i64 a0_N,.i .u64 (U a0_X),.i .u64 (U a0_Z),.i .i64 a0_Phase]]) q G0 =
 some (.b ((Ppauli_Hermitian a0_N a0_X a0_Z a0_Phase)),none):=by
 obtain ⟨D,rfl⟩:=dex hD
 have cpauli_right0:=epauli_right (D+1) (by omega) F
 rw [evW_some,G0]
 simp only [Ppauli_Hermitian]
 rcases h1:((Ppauli_right a0_N a0_X a0_Z a0_Phase)) with _|_
 all_goals simp -implicitDefEqProofs only [*,a43,vpauli_right,EVA.down,ne_eq,seval]
theorem vpauli_Hermitian {D F n:Nat}{args:List AV}{h:AHeap}:OV F (D+1) 43 args h n (n+1)=evW 3 (OV F D) F a43 (frzs (frz true 0 (bif AV.nors args then [] else h) 8) args) (AV.nors args) (hglb h 3):=evV_frozen rfl
theorem ltableau_CheckL0 (D:Nat)(hD:3≤D)(F:Nat)(v0 v1 v2 v4:Int)(v5 v6:List Pl)(v7:Int)(v8 v9:BitVec 64)(v10 v11:Int)(v12 v13:BitVec 64)(v14:Int)(K:AE→AS→Option Res):∀ (f:Nat) (v3:Int) (s:AS),s.keepG 3 [1,33,34,47,48,49] [1]=some ⟨[(1,.lp 1 0),(33,.i .i64 v0),(34,.i .i64 v1),(47,.sl (some (3,0)) 2 (.ex (2))),(48,.i .i64 v2),(49,.i .i64 v3)],[(1,[.i .i64 v4,.vs v5.length .unk (enc Pl.cells v5),.vs v6.length .unk (enc Pl.cells v6)])],[(3,⟨true,false,27,4,[.i .i64 v7,.i .u64 (U v8),.i .u64 (U v9),.i .i64 v10,.i .i64 v11,.i .u64 (U v12),.i .u64 (U v13),.i .i64 v14]⟩),(1,tab64)],4⟩→
 evLoop (evC (OV F D) 3 F a42L0) f s K=match Ptableau_CheckL0 v0 v1 v2 v4 v5 v6 v7 v8 v9 v10 v11 v12 v13 v14 f v3 with|none=>none|some (.inl _)=>K .ret ⟨[(2,.i .i64 (140))],[],[(1,tab64)],3⟩|some (.inr _)=>K (.ex 2) ⟨[(1,.lp 1 0),(33,.i .i64 v0),(34,.i .i64 v1)],[(1,[.i .i64 v4,.vs v5.length .unk (enc Pl.cells v5),.vs v6.length .unk (enc Pl.cells v6)])],[(1,tab64)],3⟩:=by
 obtain ⟨D,rfl⟩:=dex hD
 have cpauli_Hermitian0:=epauli_Hermitian (D+2) (by omega) F
 intro f
 induction f with
 |zero=>intro v3 s hs;simp only [evLoop,Ptableau_CheckL0]
 |succ f ih=>
 intro v3 s hs
 obtain ⟨k0,hk,hn,he,hr⟩:=@lk_all (OV F (D+3)) 3 F a42L0 f K
 rw [loop_succ,hk,a42L0,runC_cutg,hs]
 clear hs
 simp only [Ptableau_CheckL0]
 clear hk
 by_cases h1:v3<v2
 by_cases h2:v3=0
 replace h2:=eq_true h2
 have h3:inb v3 2=true:=by rw [(of_eq_true h2)];decide
 have h4:Int.toNat v3=0:=by rw [(of_eq_true h2)];rfl
 by_cases h5:v7=v4
 replace h5:=eq_true h5
 rcases h6:((Ppauli_Hermitian v7 v8 v9 v10)) with _|_
 rotate_left
 rotate_left
 rotate_left
 by_cases h7:v3=1
 replace h7:=eq_true h7
 have h8:inb v3 2=true:=by rw [(of_eq_true h7)];decide
 have h9:Int.toNat v3=1:=by rw [(of_eq_true h7)];rfl
 by_cases h10:v11=v4
 replace h10:=eq_true h10
 rcases h11:((Ppauli_Hermitian v11 v12 v13 v14)) with _|_
 rotate_left
 rotate_left
 rotate_left
 have h12:inb v3 2=false:=by simp only [inb,Bool.and_eq_false_iff,decide_eq_false_iff_not];omega
 all_goals simp -implicitDefEqProofs only [*,-ih,vpauli_Hermitian,EVA.down,ne_eq,seval]
 all_goals exact ih _ _ (by simp only [*,-ih,vpauli_Hermitian,EVA.down,ne_eq,seval])
theorem ltableau_CheckL1 (D:Nat)(hD:3≤D)(F:Nat)(v0 v2:Int)(v3 v4:List Pl)(K:AE→AS→Option Res):∀ (f:Nat) (v1:Int) (s:AS),s.keepG 3 [1,33,34] [1]=some ⟨[(1,.lp 1 0),(33,.i .i64 v0),(34,.i .i64 v1)],[(1,[.i .i64 v2,.vs v3.length .unk (enc Pl.cells v3),.vs v4.length .unk (enc Pl.cells v4)])],[(1,tab64)],3⟩→
 evLoop (evC (OV F D) 3 F a42L1) f s K=match Ptableau_CheckL1 F v0 v2 v3 v4 f v1 with|none=>none|some (.inl _)=>K .ret ⟨[(2,.i .i64 (140))],[],[(1,tab64)],3⟩|some (.inr _)=>K (.ex 0) ⟨[(1,.lp 1 0)],[(1,[.i .i64 v2,.vs v3.length .unk (enc Pl.cells v3),.vs v4.length .unk (enc Pl.cells v4)])],[(1,tab64)],3⟩:=by
 obtain ⟨D,rfl⟩:=dex hD
 intro f
 induction f with
 |zero=>intro v1 s hs;simp only [evLoop,Ptableau_CheckL1]
 |succ f ih=>
 intro v1 s hs
 obtain ⟨k0,hk,hn,he,hr⟩:=@lk_all (OV F (D+3)) 3 F a42L1 f K
 rw [loop_succ,hk,a42L1,runC_cutg,hs]
 clear hs
 simp only [Ptableau_CheckL1]
 clear hk
 by_cases h1:v1<v0
 rcases ixo (@pk_Pl_cells v3 v1) with h2|⟨x1,h2⟩
 rotate_left
 rcases ixo (@pk_Pl_cells v4 v1) with h3|⟨x2,h3⟩
 rotate_left
 simp -implicitDefEqProofs only [*,-ih,runC_loop,EVA.down,ne_eq,seval]
 rw [ltableau_CheckL0 (D+3) (by omega) F v0 v1 2 v2 v3 v4 x1.N x1.X x1.Z x1.Ph x2.N x2.X x2.Z x2.Ph _ F 0 _ (by simp only [*,-ih,EVA.down,ne_eq,seval];try rfl)]
 rcases h4:(Ptableau_CheckL0 v0 v1 2 v2 v3 v4 x1.N x1.X x1.Z x1.Ph x2.N x2.X x2.Z x2.Ph F 0) with _|(_|_)
 all_goals simp -implicitDefEqProofs only [*,-ih,EVA.down,ne_eq,seval]
 all_goals exact ih _ _ (by simp only [*,-ih,EVA.down,ne_eq,seval])
theorem ebits_OnesCount64 (D:Nat)(hD:0≤D)(F:Nat)(a0:BitVec 64)(q:Bool):evW 3 (OV F D) F a79 (some [.i .u64 (U a0)]) q G0 =
 some (.i .i64 ((Pbits_OnesCount64 a0)),none):=by
 have u2:AV.i .u64 2=.i .u64 (U 2#64):=id rfl
 have u4:AV.i .u64 4=.i .u64 (U 4#64):=id rfl
 have u8:AV.i .u64 8=.i .u64 (U 8#64):=id rfl
 have u16:AV.i .u64 16=.i .u64 (U 16#64):=id rfl
 have u32:AV.i .u64 32=.i .u64 (U 32#64):=id rfl
 have u1085102592571150095:AV.i .u64 1085102592571150095=.i .u64 (U 1085102592571150095#64):=id rfl
 have u3689348814741910323:AV.i .u64 3689348814741910323=.i .u64 (U 3689348814741910323#64):=id rfl
 have u6148914691236517205:AV.i .u64 6148914691236517205=.i .u64 (U 6148914691236517205#64):=id rfl
 rw [evW_some,G0]
 skip
 all_goals simp -implicitDefEqProofs only [*,a79,Pbits_OnesCount64,EVA.down,ne_eq,seval]
theorem vbits_OnesCount64 {D F n:Nat}{args:List AV}{h:AHeap}:OV F (D+1) 79 args h n (n+1)=evW 3 (OV F D) F a79 (frzs (frz true 0 (bif AV.nors args then [] else h) 8) args) (AV.nors args) (hglb h 3):=evV_frozen rfl
theorem etableau_commute (D:Nat)(hD:1≤D)(F:Nat)(a0_N:Int)(a0_X a0_Z:BitVec 64)(a0_Phase a1_N:Int)(a1_X a1_Z:BitVec 64)(a1_Phase:Int)(q:Bool):evW 3 (OV F D) F a77 (some [.agg [.i .i64 a0_N,.i .u64 (U a0_X),.i .u64 (U a0_Z),.i .i64 a0_Phase],.agg [.i .i64 a1_N,.i .u64 (U a1_X),.i .u64 (U a1_Z),.i .i64 a1_Phase]]) q G0 =
 some (.b ((Ptableau_commute a0_N a0_X a0_Z a0_Phase a1_N a1_X a1_Z a1_Phase)),none):=by
 obtain ⟨D,rfl⟩:=dex hD
 have cbits_OnesCount640:=ebits_OnesCount64 (D) (by omega) F
 rw [evW_some,G0]
 skip
 all_goals simp -implicitDefEqProofs only [*,a77,Ptableau_commute,vbits_OnesCount64,EVA.down,ne_eq,seval]
theorem vtableau_commute {D F n:Nat}{args:List AV}{h:AHeap}:OV F (D+1) 77 args h n (n+1)=evW 3 (OV F D) F a77 (frzs (frz true 0 (bif AV.nors args then [] else h) 8) args) (AV.nors args) (hglb h 3):=evV_frozen rfl
theorem ltableau_CheckL2 (D:Nat)(hD:2≤D)(F:Nat)(v0 v1 v2 v3 v5:Int)(v6 v7:List Pl)(K:AE→AS→Option Res):∀ (f:Nat) (v4:Int) (s:AS),s.keepG 3 [1,6,66,67,71,72] [1]=some ⟨[(1,.lp 1 0),(6,.i .i64 v0),(66,.i .i64 v1),(67,.i .i64 v2),(71,.i .i64 v3),(72,.i .i64 v4)],[(1,[.i .i64 v5,.vs v6.length .unk (enc Pl.cells v6),.vs v7.length .unk (enc Pl.cells v7)])],[(1,tab64)],3⟩→
 evLoop (evC (OV F D) 3 F a42L2) f s K=match Ptableau_CheckL2 v0 v1 v2 v3 v5 v6 v7 f v4 with|none=>none|some (.inl _)=>K .ret ⟨[(2,.i .i64 (140))],[],[(1,tab64)],3⟩|some (.inr _)=>K (.ex 6) ⟨[(1,.lp 1 0),(66,.i .i64 v1),(67,.i .i64 v2)],[(1,[.i .i64 v5,.vs v6.length .unk (enc Pl.cells v6),.vs v7.length .unk (enc Pl.cells v7)])],[(1,tab64)],3⟩:=by
 obtain ⟨D,rfl⟩:=dex hD
 have ctableau_commute0:=etableau_commute (D+1) (by omega) F
 intro f
 induction f with
 |zero=>intro v4 s hs;simp only [evLoop,Ptableau_CheckL2]
 |succ f ih=>
 intro v4 s hs
 obtain ⟨k0,hk,hn,he,hr⟩:=@lk_all (OV F (D+2)) 3 F a42L2 f K
 rw [loop_succ,hk,a42L2,runC_cutg,hs]
 clear hs
 simp only [Ptableau_CheckL2]
 clear hk
 by_cases h1:v4<v3
 rcases ixo (@pk_Pl_cells v6 v0) with h2|⟨x1,h2⟩
 rotate_left
 rcases ixo (@pk_Pl_cells v6 v4) with h3|⟨x2,h3⟩
 rotate_left
 rcases h4:((Ptableau_commute x1.N x1.X x1.Z x1.Ph x2.N x2.X x2.Z x2.Ph)) with _|_
 rotate_left
 rcases ixo (@pk_Pl_cells v7 v0) with h5|⟨x3,h5⟩
 rotate_left
 rcases ixo (@pk_Pl_cells v7 v4) with h6|⟨x4,h6⟩
 rotate_left
 rcases h7:((Ptableau_commute x3.N x3.X x3.Z x3.Ph x4.N x4.X x4.Z x4.Ph)) with _|_
 rotate_left
 by_cases h8:v0=v4
 replace h8:=eq_true h8
 rcases h9:((Ptableau_commute x3.N x3.X x3.Z x3.Ph x2.N x2.X x2.Z x2.Ph)) with _|_
 rotate_left
 rotate_left
 rcases h10:((Ptableau_commute x3.N x3.X x3.Z x3.Ph x2.N x2.X x2.Z x2.Ph)) with _|_
 all_goals simp -implicitDefEqProofs only [*,-ih,vtableau_commute,EVA.down,ne_eq,seval]
 all_goals exact ih _ _ (by simp only [*,-ih,vtableau_commute,EVA.down,ne_eq,seval])
end Go.Proofs.YtlgmimclpmolmaaGreatDoor.Ab
