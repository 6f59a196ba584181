/- Functions of the program as plain functions, and that the abstract machine's evaluation comes to them. Written by G.py. No condition. -/
import Derived.Test.YtbbikmfjnanpmaaDoorHd
set_option maxRecDepth 100000
set_option maxHeartbeats 4000000
set_option linter.unusedVariables false
set_option linter.unusedSimpArgs false
namespace Go.Proofs.YtbbikmfjnanpmaaDoor.Ab
open Go
theorem len_Pl_cells:∀ x,(Pl.cells x).length=4:=fun _=>rfl
theorem nors_Pl_cells (x:Pl):AV.nors (Pl.cells x)=true:=by simp only [Pl.cells,AV.nors,AV.nor,Bool.and_self]
theorem one_Pl_cells (x:Pl):(Pl.cells x).all AV.one=true:=by simp only [Pl.cells,List.all_cons,List.all_nil,AV.one,Bool.and_self]
theorem flat_Pl_cells (x:Pl):(Pl.cells x).all AV.flat1=true:=by simp only [Pl.cells,List.all_cons,List.all_nil,AV.flat1,Bool.and_self]
theorem encnors_Pl_cells (l:List Pl):AV.nors (enc Pl.cells l)=true:=enc_nors nors_Pl_cells l
theorem enclen_Pl_cells (l:List Pl):(enc Pl.cells l).length=l.length*4:=enc_len len_Pl_cells l
theorem encone_Pl_cells (l:List Pl):(enc Pl.cells l).all AV.one=true:=enc_all one_Pl_cells l
theorem encall_Pl_cells (l:List Pl):(enc Pl.cells l).all AV.flat1=true:=enc_all flat_Pl_cells l
theorem flatt_Pl_cells (x:Pl):(Pl.cells x).all AV.flat2=true:=by simp only [Pl.cells,List.all_cons,List.all_nil,AV.flat2,Bool.and_self]
theorem encflat_Pl_cells {q:Bool}{b:Nat}{h:AHeap}{f:Nat}(l:List Pl):frzs (frz q b h (f+1)) (enc Pl.cells l)=some (enc Pl.cells l):=frzs_flat2 (enc_all flatt_Pl_cells l)
theorem enctake_Pl_cells (l:List Pl):(enc Pl.cells l).take (l.length*4)=enc Pl.cells l:=by simpa only [Nat.mul_one] using enc_take len_Pl_cells l
theorem encids_Pl_cells {b:Nat}{l:List Nat}(m:List Pl):AV.idss b (enc Pl.cells m) l=l:=idss_nors (encnors_Pl_cells m)
theorem encren_Pl_cells {b c:Nat}{l:List Nat}(m:List Pl):AV.rens b c l (enc Pl.cells m)=some (enc Pl.cells m):=rens_id (encnors_Pl_cells m)
theorem encold_Pl_cells {b:Nat}(m:List Pl):AV.olds b (enc Pl.cells m)=true:=olds_nors (encnors_Pl_cells m)
theorem encpart_Pl_cells (l:List Pl)(k:Nat):(enc Pl.cells l).take (k*4)=enc Pl.cells (l.take k):=by simpa only [Nat.mul_one] using enc_takew len_Pl_cells l k
theorem encdrop_Pl_cells (l:List Pl)(k:Nat):(enc Pl.cells l).drop (k*4)=enc Pl.cells (l.drop k):=by simpa only [Nat.mul_one] using enc_dropw len_Pl_cells l k
theorem pk_Pl_cells {l:List Pl}{j:Int}{x:Pl}(h:idx l j=some x):idx l j=some x∧inb j l.length=true∧apart_ ((enc Pl.cells l).drop (j.toNat*4)) 0 (some 4)=some (.agg (Pl.cells x))∧apart_ ((enc Pl.cells l).drop (j.toNat*4)) 0 none=(Pl.cells x)[0]?∧apart_ (((enc Pl.cells l).drop (j.toNat*4)).drop 1) 0 none=(Pl.cells x)[1]?∧apart_ (((enc Pl.cells l).drop (j.toNat*4)).drop 2) 0 none=(Pl.cells x)[2]?∧apart_ (((enc Pl.cells l).drop (j.toNat*4)).drop 3) 0 none=(Pl.cells x)[3]?∧apart_ (enc Pl.cells l) (j.toNat*4) (some 4)=some (.agg (Pl.cells x))∧apart_ (enc Pl.cells l) (j.toNat*4) none=(Pl.cells x)[0]?∧apart_ (enc Pl.cells l) (j.toNat*4+1) none=(Pl.cells x)[1]?∧apart_ (enc Pl.cells l) (j.toNat*4+2) none=(Pl.cells x)[2]?∧apart_ (enc Pl.cells l) (j.toNat*4+3) none=(Pl.cells x)[3]?:=⟨h,idx_inb h,vp_row len_Pl_cells h,vp_cell0 len_Pl_cells h (by decide),vp_cell (k:=1) len_Pl_cells h (by decide),vp_cell (k:=2) len_Pl_cells h (by decide),vp_cell (k:=3) len_Pl_cells h (by decide),own_row len_Pl_cells h,own_cell0 len_Pl_cells h (by decide),own_cell (k:=1) len_Pl_cells h (by decide),own_cell (k:=2) len_Pl_cells h (by decide),own_cell (k:=3) len_Pl_cells h (by decide)⟩
def c3 (x:Int):List AV:=[.i .i64 x]
theorem len_c3:∀ x,(c3 x).length=1:=fun _=>rfl
theorem nors_c3 (x:Int):AV.nors (c3 x)=true:=by simp only [c3,AV.nors,AV.nor,Bool.and_self,encnors_Pl_cells]
theorem one_c3 (x:Int):(c3 x).all AV.one=true:=by simp only [c3,List.all_cons,List.all_nil,AV.one,Bool.and_self]
theorem flat_c3 (x:Int):(c3 x).all AV.flat1=true:=by simp only [c3,List.all_cons,List.all_nil,AV.flat1,Bool.and_self]
theorem encnors_c3 (l:List Int):AV.nors (enc c3 l)=true:=enc_nors nors_c3 l
theorem enclen_c3 (l:List Int):(enc c3 l).length=l.length*1:=enc_len len_c3 l
theorem encone_c3 (l:List Int):(enc c3 l).all AV.one=true:=enc_all one_c3 l
theorem encall_c3 (l:List Int):(enc c3 l).all AV.flat1=true:=enc_all flat_c3 l
theorem flatt_c3 (x:Int):(c3 x).all AV.flat2=true:=by simp only [c3,List.all_cons,List.all_nil,AV.flat2,Bool.and_self]
theorem encflat_c3 {q:Bool}{b:Nat}{h:AHeap}{f:Nat}(l:List Int):frzs (frz q b h (f+1)) (enc c3 l)=some (enc c3 l):=frzs_flat2 (enc_all flatt_c3 l)
theorem enctake_c3 (l:List Int):(enc c3 l).take l.length=enc c3 l:=by simpa only [Nat.mul_one] using enc_take len_c3 l
theorem encids_c3 {b:Nat}{l:List Nat}(m:List Int):AV.idss b (enc c3 m) l=l:=idss_nors (encnors_c3 m)
theorem encren_c3 {b c:Nat}{l:List Nat}(m:List Int):AV.rens b c l (enc c3 m)=some (enc c3 m):=rens_id (encnors_c3 m)
theorem encold_c3 {b:Nat}(m:List Int):AV.olds b (enc c3 m)=true:=olds_nors (encnors_c3 m)
theorem encpart_c3 (l:List Int)(k:Nat):(enc c3 l).take k=enc c3 (l.take k):=by simpa only [Nat.mul_one] using enc_takew len_c3 l k
theorem encdrop_c3 (l:List Int)(k:Nat):(enc c3 l).drop k=enc c3 (l.drop k):=by simpa only [Nat.mul_one] using enc_dropw len_c3 l k
theorem pk_c3 {l:List Int}{j:Int}{x:Int}(h:idx l j=some x):idx l j=some x∧inb j l.length=true∧apart_ ((enc c3 l).drop j.toNat) 0 none=(c3 x)[0]?∧apart_ (enc c3 l) j.toNat none=(c3 x)[0]?:=⟨h,idx_inb h,vp_one len_c3 h,own_one len_c3 h⟩
def S40.cs (p:S40):List AV:=[.i .i64 p.f_Kind,.i .i64 p.f_Gate,.vs (p.f_Qubits.length) .unk (enc c3 p.f_Qubits),.i .i64 p.f_Bit,.i .i64 p.f_If,.i .i64 p.f_When]
theorem len_S40_cs:∀ x,(S40.cs x).length=6:=fun _=>rfl
theorem nors_S40_cs (x:S40):AV.nors (S40.cs x)=true:=by simp only [S40.cs,AV.nors,AV.nor,Bool.and_self,encnors_Pl_cells,encnors_c3]
theorem one_S40_cs (x:S40):(S40.cs x).all AV.one=true:=by simp only [S40.cs,List.all_cons,List.all_nil,AV.one,Bool.and_self]
theorem flat_S40_cs (x:S40):(S40.cs x).all AV.flat1=true:=by simp only [S40.cs,List.all_cons,List.all_nil,AV.flat1,Bool.and_self]
theorem encnors_S40_cs (l:List S40):AV.nors (enc S40.cs l)=true:=enc_nors nors_S40_cs l
theorem enclen_S40_cs (l:List S40):(enc S40.cs l).length=l.length*6:=enc_len len_S40_cs l
theorem encone_S40_cs (l:List S40):(enc S40.cs l).all AV.one=true:=enc_all one_S40_cs l
theorem encall_S40_cs (l:List S40):(enc S40.cs l).all AV.flat1=true:=enc_all flat_S40_cs l
theorem encflat_S40_cs {b:Nat}{h:AHeap}{f:Nat}(l:List S40):frzs (frz true b h (f+1)) (enc S40.cs l)=some (enc S40.cs l):=frzs_flat (enc_all flat_S40_cs l)
theorem enctake_S40_cs (l:List S40):(enc S40.cs l).take (l.length*6)=enc S40.cs l:=by simpa only [Nat.mul_one] using enc_take len_S40_cs l
theorem encids_S40_cs {b:Nat}{l:List Nat}(m:List S40):AV.idss b (enc S40.cs m) l=l:=idss_nors (encnors_S40_cs m)
theorem encren_S40_cs {b c:Nat}{l:List Nat}(m:List S40):AV.rens b c l (enc S40.cs m)=some (enc S40.cs m):=rens_id (encnors_S40_cs m)
theorem encold_S40_cs {b:Nat}(m:List S40):AV.olds b (enc S40.cs m)=true:=olds_nors (encnors_S40_cs m)
theorem encpart_S40_cs (l:List S40)(k:Nat):(enc S40.cs l).take (k*6)=enc S40.cs (l.take k):=by simpa only [Nat.mul_one] using enc_takew len_S40_cs l k
theorem encdrop_S40_cs (l:List S40)(k:Nat):(enc S40.cs l).drop (k*6)=enc S40.cs (l.drop k):=by simpa only [Nat.mul_one] using enc_dropw len_S40_cs l k
theorem pk_S40_cs {l:List S40}{j:Int}{x:S40}(h:idx l j=some x):idx l j=some x∧inb j l.length=true∧apart_ ((enc S40.cs l).drop (j.toNat*6)) 0 (some 6)=some (.agg (S40.cs x))∧apart_ ((enc S40.cs l).drop (j.toNat*6)) 0 none=(S40.cs x)[0]?∧apart_ (((enc S40.cs l).drop (j.toNat*6)).drop 1) 0 none=(S40.cs x)[1]?∧apart_ (((enc S40.cs l).drop (j.toNat*6)).drop 2) 0 none=(S40.cs x)[2]?∧apart_ (((enc S40.cs l).drop (j.toNat*6)).drop 3) 0 none=(S40.cs x)[3]?∧apart_ (((enc S40.cs l).drop (j.toNat*6)).drop 4) 0 none=(S40.cs x)[4]?∧apart_ (((enc S40.cs l).drop (j.toNat*6)).drop 5) 0 none=(S40.cs x)[5]?∧apart_ (enc S40.cs l) (j.toNat*6) (some 6)=some (.agg (S40.cs x))∧apart_ (enc S40.cs l) (j.toNat*6) none=(S40.cs x)[0]?∧apart_ (enc S40.cs l) (j.toNat*6+1) none=(S40.cs x)[1]?∧apart_ (enc S40.cs l) (j.toNat*6+2) none=(S40.cs x)[2]?∧apart_ (enc S40.cs l) (j.toNat*6+3) none=(S40.cs x)[3]?∧apart_ (enc S40.cs l) (j.toNat*6+4) none=(S40.cs x)[4]?∧apart_ (enc S40.cs l) (j.toNat*6+5) none=(S40.cs x)[5]?:=⟨h,idx_inb h,vp_row len_S40_cs h,vp_cell0 len_S40_cs h (by decide),vp_cell (k:=1) len_S40_cs h (by decide),vp_cell (k:=2) len_S40_cs h (by decide),vp_cell (k:=3) len_S40_cs h (by decide),vp_cell (k:=4) len_S40_cs h (by decide),vp_cell (k:=5) len_S40_cs h (by decide),own_row len_S40_cs h,own_cell0 len_S40_cs h (by decide),own_cell (k:=1) len_S40_cs h (by decide),own_cell (k:=2) len_S40_cs h (by decide),own_cell (k:=3) len_S40_cs h (by decide),own_cell (k:=4) len_S40_cs h (by decide),own_cell (k:=5) len_S40_cs h (by decide)⟩
def c43 (x:BitVec 64):List AV:=[.f .f64 (x).toNat]
theorem len_c43:∀ x,(c43 x).length=1:=fun _=>rfl
theorem nors_c43 (x:BitVec 64):AV.nors (c43 x)=true:=by simp only [c43,AV.nors,AV.nor,Bool.and_self,encnors_Pl_cells,encnors_c3,encnors_S40_cs]
theorem one_c43 (x:BitVec 64):(c43 x).all AV.one=true:=by simp only [c43,List.all_cons,List.all_nil,AV.one,Bool.and_self]
theorem flat_c43 (x:BitVec 64):(c43 x).all AV.flat1=true:=by simp only [c43,List.all_cons,List.all_nil,AV.flat1,Bool.and_self]
theorem encnors_c43 (l:List (BitVec 64)):AV.nors (enc c43 l)=true:=enc_nors nors_c43 l
theorem enclen_c43 (l:List (BitVec 64)):(enc c43 l).length=l.length*1:=enc_len len_c43 l
theorem encone_c43 (l:List (BitVec 64)):(enc c43 l).all AV.one=true:=enc_all one_c43 l
theorem encall_c43 (l:List (BitVec 64)):(enc c43 l).all AV.flat1=true:=enc_all flat_c43 l
theorem flatt_c43 (x:BitVec 64):(c43 x).all AV.flat2=true:=by simp only [c43,List.all_cons,List.all_nil,AV.flat2,Bool.and_self]
theorem encflat_c43 {q:Bool}{b:Nat}{h:AHeap}{f:Nat}(l:List (BitVec 64)):frzs (frz q b h (f+1)) (enc c43 l)=some (enc c43 l):=frzs_flat2 (enc_all flatt_c43 l)
theorem enctake_c43 (l:List (BitVec 64)):(enc c43 l).take l.length=enc c43 l:=by simpa only [Nat.mul_one] using enc_take len_c43 l
theorem encids_c43 {b:Nat}{l:List Nat}(m:List (BitVec 64)):AV.idss b (enc c43 m) l=l:=idss_nors (encnors_c43 m)
theorem encren_c43 {b c:Nat}{l:List Nat}(m:List (BitVec 64)):AV.rens b c l (enc c43 m)=some (enc c43 m):=rens_id (encnors_c43 m)
theorem encold_c43 {b:Nat}(m:List (BitVec 64)):AV.olds b (enc c43 m)=true:=olds_nors (encnors_c43 m)
theorem encpart_c43 (l:List (BitVec 64))(k:Nat):(enc c43 l).take k=enc c43 (l.take k):=by simpa only [Nat.mul_one] using enc_takew len_c43 l k
theorem encdrop_c43 (l:List (BitVec 64))(k:Nat):(enc c43 l).drop k=enc c43 (l.drop k):=by simpa only [Nat.mul_one] using enc_dropw len_c43 l k
theorem pk_c43 {l:List (BitVec 64)}{j:Int}{x:BitVec 64}(h:idx l j=some x):idx l j=some x∧inb j l.length=true∧apart_ ((enc c43 l).drop j.toNat) 0 none=(c43 x)[0]?∧apart_ (enc c43 l) j.toNat none=(c43 x)[0]?:=⟨h,idx_inb h,vp_one len_c43 h,own_one len_c43 h⟩
def S53.cs (p:S53):List AV:=[.i .i64 p.f_After,.i .i64 p.f_P_N,.i .u64 (U p.f_P_X),.i .u64 (U p.f_P_Z),.i .i64 p.f_P_Phase]
theorem len_S53_cs:∀ x,(S53.cs x).length=5:=fun _=>rfl
theorem nors_S53_cs (x:S53):AV.nors (S53.cs x)=true:=by simp only [S53.cs,AV.nors,AV.nor,Bool.and_self,encnors_Pl_cells,encnors_c3,encnors_S40_cs,encnors_c43]
theorem one_S53_cs (x:S53):(S53.cs x).all AV.one=true:=by simp only [S53.cs,List.all_cons,List.all_nil,AV.one,Bool.and_self]
theorem flat_S53_cs (x:S53):(S53.cs x).all AV.flat1=true:=by simp only [S53.cs,List.all_cons,List.all_nil,AV.flat1,Bool.and_self]
theorem encnors_S53_cs (l:List S53):AV.nors (enc S53.cs l)=true:=enc_nors nors_S53_cs l
theorem enclen_S53_cs (l:List S53):(enc S53.cs l).length=l.length*5:=enc_len len_S53_cs l
theorem encone_S53_cs (l:List S53):(enc S53.cs l).all AV.one=true:=enc_all one_S53_cs l
theorem encall_S53_cs (l:List S53):(enc S53.cs l).all AV.flat1=true:=enc_all flat_S53_cs l
theorem flatt_S53_cs (x:S53):(S53.cs x).all AV.flat2=true:=by simp only [S53.cs,List.all_cons,List.all_nil,AV.flat2,Bool.and_self]
theorem encflat_S53_cs {q:Bool}{b:Nat}{h:AHeap}{f:Nat}(l:List S53):frzs (frz q b h (f+1)) (enc S53.cs l)=some (enc S53.cs l):=frzs_flat2 (enc_all flatt_S53_cs l)
theorem enctake_S53_cs (l:List S53):(enc S53.cs l).take (l.length*5)=enc S53.cs l:=by simpa only [Nat.mul_one] using enc_take len_S53_cs l
theorem encids_S53_cs {b:Nat}{l:List Nat}(m:List S53):AV.idss b (enc S53.cs m) l=l:=idss_nors (encnors_S53_cs m)
theorem encren_S53_cs {b c:Nat}{l:List Nat}(m:List S53):AV.rens b c l (enc S53.cs m)=some (enc S53.cs m):=rens_id (encnors_S53_cs m)
theorem encold_S53_cs {b:Nat}(m:List S53):AV.olds b (enc S53.cs m)=true:=olds_nors (encnors_S53_cs m)
theorem encpart_S53_cs (l:List S53)(k:Nat):(enc S53.cs l).take (k*5)=enc S53.cs (l.take k):=by simpa only [Nat.mul_one] using enc_takew len_S53_cs l k
theorem encdrop_S53_cs (l:List S53)(k:Nat):(enc S53.cs l).drop (k*5)=enc S53.cs (l.drop k):=by simpa only [Nat.mul_one] using enc_dropw len_S53_cs l k
theorem pk_S53_cs {l:List S53}{j:Int}{x:S53}(h:idx l j=some x):idx l j=some x∧inb j l.length=true∧apart_ ((enc S53.cs l).drop (j.toNat*5)) 0 (some 5)=some (.agg (S53.cs x))∧apart_ ((enc S53.cs l).drop (j.toNat*5)) 0 none=(S53.cs x)[0]?∧apart_ (((enc S53.cs l).drop (j.toNat*5)).drop 1) 0 none=(S53.cs x)[1]?∧apart_ (((enc S53.cs l).drop (j.toNat*5)).drop 2) 0 none=(S53.cs x)[2]?∧apart_ (((enc S53.cs l).drop (j.toNat*5)).drop 3) 0 none=(S53.cs x)[3]?∧apart_ (((enc S53.cs l).drop (j.toNat*5)).drop 4) 0 none=(S53.cs x)[4]?∧apart_ (enc S53.cs l) (j.toNat*5) (some 5)=some (.agg (S53.cs x))∧apart_ (enc S53.cs l) (j.toNat*5) none=(S53.cs x)[0]?∧apart_ (enc S53.cs l) (j.toNat*5+1) none=(S53.cs x)[1]?∧apart_ (enc S53.cs l) (j.toNat*5+2) none=(S53.cs x)[2]?∧apart_ (enc S53.cs l) (j.toNat*5+3) none=(S53.cs x)[3]?∧apart_ (enc S53.cs l) (j.toNat*5+4) none=(S53.cs x)[4]?∧apart_ (((enc S53.cs l).drop (j.toNat*5)).drop 1) 0 (some 4)=some (.agg (((S53.cs x).drop 1).take 4))∧apart_ (enc S53.cs l) (j.toNat*5+1) (some 4)=some (.agg (((S53.cs x).drop 1).take 4))∧apart_ ((((enc S53.cs l).drop (j.toNat*5)).drop 1).drop 1) 0 none=(S53.cs x)[2]?∧apart_ ((((enc S53.cs l).drop (j.toNat*5)).drop 1).drop 2) 0 none=(S53.cs x)[3]?∧apart_ ((((enc S53.cs l).drop (j.toNat*5)).drop 1).drop 3) 0 none=(S53.cs x)[4]?:=⟨h,idx_inb h,vp_row len_S53_cs h,vp_cell0 len_S53_cs h (by decide),vp_cell (k:=1) len_S53_cs h (by decide),vp_cell (k:=2) len_S53_cs h (by decide),vp_cell (k:=3) len_S53_cs h (by decide),vp_cell (k:=4) len_S53_cs h (by decide),own_row len_S53_cs h,own_cell0 len_S53_cs h (by decide),own_cell (k:=1) len_S53_cs h (by decide),own_cell (k:=2) len_S53_cs h (by decide),own_cell (k:=3) len_S53_cs h (by decide),own_cell (k:=4) len_S53_cs h (by decide),vp_sub (k:=1) (m:=4) len_S53_cs h (by decide),own_sub (k:=1) (m:=4) len_S53_cs h (by decide),vp_sub1 (k:=1) (q:=1) (r:=2) len_S53_cs h rfl (by decide),vp_sub1 (k:=1) (q:=2) (r:=3) len_S53_cs h rfl (by decide),vp_sub1 (k:=1) (q:=3) (r:=4) len_S53_cs h rfl (by decide)⟩
def c9 (x:ByteArray):List AV:=[.s x]
theorem len_c9:∀ x,(c9 x).length=1:=fun _=>rfl
theorem nors_c9 (x:ByteArray):AV.nors (c9 x)=true:=by simp only [c9,AV.nors,AV.nor,Bool.and_self,encnors_Pl_cells,encnors_c3,encnors_S40_cs,encnors_c43,encnors_S53_cs]
theorem one_c9 (x:ByteArray):(c9 x).all AV.one=true:=by simp only [c9,List.all_cons,List.all_nil,AV.one,Bool.and_self]
theorem flat_c9 (x:ByteArray):(c9 x).all AV.flat1=true:=by simp only [c9,List.all_cons,List.all_nil,AV.flat1,Bool.and_self]
theorem encnors_c9 (l:List ByteArray):AV.nors (enc c9 l)=true:=enc_nors nors_c9 l
theorem enclen_c9 (l:List ByteArray):(enc c9 l).length=l.length*1:=enc_len len_c9 l
theorem encone_c9 (l:List ByteArray):(enc c9 l).all AV.one=true:=enc_all one_c9 l
theorem encall_c9 (l:List ByteArray):(enc c9 l).all AV.flat1=true:=enc_all flat_c9 l
theorem flatt_c9 (x:ByteArray):(c9 x).all AV.flat2=true:=by simp only [c9,List.all_cons,List.all_nil,AV.flat2,Bool.and_self]
theorem encflat_c9 {q:Bool}{b:Nat}{h:AHeap}{f:Nat}(l:List ByteArray):frzs (frz q b h (f+1)) (enc c9 l)=some (enc c9 l):=frzs_flat2 (enc_all flatt_c9 l)
theorem enctake_c9 (l:List ByteArray):(enc c9 l).take l.length=enc c9 l:=by simpa only [Nat.mul_one] using enc_take len_c9 l
theorem encids_c9 {b:Nat}{l:List Nat}(m:List ByteArray):AV.idss b (enc c9 m) l=l:=idss_nors (encnors_c9 m)
theorem encren_c9 {b c:Nat}{l:List Nat}(m:List ByteArray):AV.rens b c l (enc c9 m)=some (enc c9 m):=rens_id (encnors_c9 m)
theorem encold_c9 {b:Nat}(m:List ByteArray):AV.olds b (enc c9 m)=true:=olds_nors (encnors_c9 m)
theorem encpart_c9 (l:List ByteArray)(k:Nat):(enc c9 l).take k=enc c9 (l.take k):=by simpa only [Nat.mul_one] using enc_takew len_c9 l k
theorem encdrop_c9 (l:List ByteArray)(k:Nat):(enc c9 l).drop k=enc c9 (l.drop k):=by simpa only [Nat.mul_one] using enc_dropw len_c9 l k
theorem pk_c9 {l:List ByteArray}{j:Int}{x:ByteArray}(h:idx l j=some x):idx l j=some x∧inb j l.length=true∧apart_ ((enc c9 l).drop j.toNat) 0 none=(c9 x)[0]?∧apart_ (enc c9 l) j.toNat none=(c9 x)[0]?:=⟨h,idx_inb h,vp_one len_c9 h,own_one len_c9 h⟩
theorem ixo {α:Type}{l:List α}{j:Int}{p:α→Prop}(h:∀ {x},idx l j=some x→p x):(idx l j=none∧inb j l.length=false)∨∃ x,p x:=(Option.eq_none_or_eq_some (idx l j)).elim (fun e=>.inl (pkn e)) (fun ⟨x,e⟩=>.inr ⟨x,h e⟩)
theorem dex {k D:Nat}(h:k≤D):∃ E,D=E+k:=⟨D-k,by omega⟩
def EVE:=PLift.up <| And.intro @oM.eq_1 <| And.intro @oL.eq_1 <| And.intro @oJ.eq_1 <| And.intro @oF.eq_1 <| And.intro @oS.eq_1 <| And.intro @oA.eq_1 <| And.intro @oP.eq_1 <| And.intro @oE.eq_1 <| And.intro @oB.eq_1 <| And.intro @oQ.eq_1 <| And.intro @oN.eq_1 <| And.intro @oT.eq_1 <| And.intro @oU.eq_1 <| And.intro @oG.eq_1 <| And.intro @oI.eq_1 <| And.intro @oC.eq_1 <| And.intro @oX.eq_1 <| And.intro @oY.eq_1 <| And.intro @gf.eq_1 <| And.intro @gt.eq_1 <| And.intro @Pl.cells.eq_1 (And.intro @encnors_Pl_cells (And.intro @enclen_Pl_cells (And.intro @encone_Pl_cells (And.intro @encall_Pl_cells (And.intro @encflat_Pl_cells (And.intro @enctake_Pl_cells (And.intro @encids_Pl_cells (And.intro @encren_Pl_cells (And.intro @encold_Pl_cells (And.intro @encpart_Pl_cells (And.intro @c3.eq_1 (And.intro @encnors_c3 (And.intro @enclen_c3 (And.intro @encone_c3 (And.intro @encall_c3 (And.intro @encflat_c3 (And.intro @enctake_c3 (And.intro @encids_c3 (And.intro @encren_c3 (And.intro @encold_c3 (And.intro @encpart_c3 (And.intro @S40.cs.eq_1 (And.intro @encnors_S40_cs (And.intro @enclen_S40_cs (And.intro @encone_S40_cs (And.intro @encall_S40_cs (And.intro @encflat_S40_cs (And.intro @enctake_S40_cs (And.intro @encids_S40_cs (And.intro @encren_S40_cs (And.intro @encold_S40_cs (And.intro @encpart_S40_cs (And.intro @c43.eq_1 (And.intro @encnors_c43 (And.intro @enclen_c43 (And.intro @encone_c43 (And.intro @encall_c43 (And.intro @encflat_c43 (And.intro @enctake_c43 (And.intro @encids_c43 (And.intro @encren_c43 (And.intro @encold_c43 (And.intro @encpart_c43 (And.intro @S53.cs.eq_1 (And.intro @encnors_S53_cs (And.intro @enclen_S53_cs (And.intro @encone_S53_cs (And.intro @encall_S53_cs (And.intro @encflat_S53_cs (And.intro @enctake_S53_cs (And.intro @encids_S53_cs (And.intro @encren_S53_cs (And.intro @encold_S53_cs (And.intro @encpart_S53_cs (And.intro @c9.eq_1 (And.intro @encnors_c9 (And.intro @enclen_c9 (And.intro @encone_c9 (And.intro @encall_c9 (And.intro @encflat_c9 (And.intro @enctake_c9 (And.intro @encids_c9 (And.intro @encren_c9 (And.intro @encold_c9 @encpart_c9))))))))))))))))))))))))))))))))))))))))))))))))))))))))))))))))
def EVA:=PLift.up <| And.intro EV0.down <| And.intro EV1.down <| And.intro EV2.down <| And.intro EV3.down <| And.intro EV4.down <| And.intro EV5.down <| And.intro EV6.down <| And.intro EV7.down <| And.intro EVK.down <| And.intro EVF.down <| And.intro EVN.down <| And.intro EVE.down @kont_ret
theorem egate_table (D:Nat)(hD:0≤D)(F:Nat)  (q:Bool):evW 3 (OV F D) F a107 (some []) q G0 =
 match Pgate_table with|(r0,r1,r2,r3,r4,r5,r6,r7,r8,r9,r10,r11,r12,r13,r14,r15,r16,r17,r18,r19,r20,r21,r22,r23,r24,r25,r26,r27,r28,r29,r30,r31,r32,r33,r34,r35,r36,r37,r38,r39,r40,r41,r42,r43,r44,r45,r46,r47,r48,r49,r50,r51,r52,r53,r54,r55,r56,r57,r58,r59,r60,r61,r62,r63,r64,r65,r66,r67,r68,r69,r70,r71,r72,r73,r74,r75,r76,r77,r78,r79,r80,r81,r82,r83)=>some (.agg [.s r0,.i .i64 r1,.i .i64 r2,.i .i64 r3,.s r4,.i .i64 r5,.i .i64 r6,.i .i64 r7,.s r8,.i .i64 r9,.i .i64 r10,.i .i64 r11,.s r12,.i .i64 r13,.i .i64 r14,.i .i64 r15,.s r16,.i .i64 r17,.i .i64 r18,.i .i64 r19,.s r20,.i .i64 r21,.i .i64 r22,.i .i64 r23,.s r24,.i .i64 r25,.i .i64 r26,.i .i64 r27,.s r28,.i .i64 r29,.i .i64 r30,.i .i64 r31,.s r32,.i .i64 r33,.i .i64 r34,.i .i64 r35,.s r36,.i .i64 r37,.i .i64 r38,.i .i64 r39,.s r40,.i .i64 r41,.i .i64 r42,.i .i64 r43,.s r44,.i .i64 r45,.i .i64 r46,.i .i64 r47,.s r48,.i .i64 r49,.i .i64 r50,.i .i64 r51,.s r52,.i .i64 r53,.i .i64 r54,.i .i64 r55,.s r56,.i .i64 r57,.i .i64 r58,.i .i64 r59,.s r60,.i .i64 r61,.i .i64 r62,.i .i64 r63,.s r64,.i .i64 r65,.i .i64 r66,.i .i64 r67,.s r68,.i .i64 r69,.i .i64 r70,.i .i64 r71,.s r72,.i .i64 r73,.i .i64 r74,.i .i64 r75,.s r76,.i .i64 r77,.i .i64 r78,.i .i64 r79,.s r80,.i .i64 r81,.i .i64 r82,.i .i64 r83],none):=by
 rw [evW_some,G0]
 skip
 all_goals simp -implicitDefEqProofs only [*,a107,Pgate_table,EVA.down,ne_eq,seval]
theorem vgate_table {D F n:Nat}{args:List AV}{h:AHeap}:OV F (D+1) 107 args h n (n+1)=evW 3 (OV F D) F a107 (frzs (frz true 0 (bif AV.nors args then [] else h) 8) args) (AV.nors args) (hglb h 3):=evV_frozen rfl
theorem egate_of (D:Nat)(hD:1≤D)(F:Nat)(a0:Int)(q:Bool):evW 3 (OV F D) F a103 (some [.i .i64 a0]) q G0 =
 match Pgate_of a0 with|none=>none|some (r0,r1,r2,r3)=>some (.agg [.s r0,.i .i64 r1,.i .i64 r2,.i .i64 r3],none):=by
 obtain ⟨D,rfl⟩:=dex hD
 have cgate_table0:=egate_table (D) (by omega) F
 rw [evW_some,G0]
 simp only [Pgate_of]
 by_cases h1:a0<1
 rotate_left
 by_cases h2:a0>20
 rotate_left
 rcases h3:(Pgate_table) with ⟨r1,r2,r3,r4,r5,r6,r7,r8,r9,r10,r11,r12,r13,r14,r15,r16,r17,r18,r19,r20,r21,r22,r23,r24,r25,r26,r27,r28,r29,r30,r31,r32,r33,r34,r35,r36,r37,r38,r39,r40,r41,r42,r43,r44,r45,r46,r47,r48,r49,r50,r51,r52,r53,r54,r55,r56,r57,r58,r59,r60,r61,r62,r63,r64,r65,r66,r67,r68,r69,r70,r71,r72,r73,r74,r75,r76,r77,r78,r79,r80,r81,r82,r83,r84⟩
 by_cases h4:a0=0
 replace h4:=eq_true h4
 have h5:inb a0 21=true:=by rw [(of_eq_true h4)];decide
 have h6:Int.toNat a0=0:=by rw [(of_eq_true h4)];rfl
 rotate_left
 by_cases h7:a0=1
 replace h7:=eq_true h7
 have h8:inb a0 21=true:=by rw [(of_eq_true h7)];decide
 have h9:Int.toNat a0=1:=by rw [(of_eq_true h7)];rfl
 rotate_left
 by_cases h10:a0=2
 replace h10:=eq_true h10
 have h11:inb a0 21=true:=by rw [(of_eq_true h10)];decide
 have h12:Int.toNat a0=2:=by rw [(of_eq_true h10)];rfl
 rotate_left
 by_cases h13:a0=3
 replace h13:=eq_true h13
 have h14:inb a0 21=true:=by rw [(of_eq_true h13)];decide
 have h15:Int.toNat a0=3:=by rw [(of_eq_true h13)];rfl
 rotate_left
 by_cases h16:a0=4
 replace h16:=eq_true h16
 have h17:inb a0 21=true:=by rw [(of_eq_true h16)];decide
 have h18:Int.toNat a0=4:=by rw [(of_eq_true h16)];rfl
 rotate_left
 by_cases h19:a0=5
 replace h19:=eq_true h19
 have h20:inb a0 21=true:=by rw [(of_eq_true h19)];decide
 have h21:Int.toNat a0=5:=by rw [(of_eq_true h19)];rfl
 rotate_left
 by_cases h22:a0=6
 replace h22:=eq_true h22
 have h23:inb a0 21=true:=by rw [(of_eq_true h22)];decide
 have h24:Int.toNat a0=6:=by rw [(of_eq_true h22)];rfl
 rotate_left
 by_cases h25:a0=7
 replace h25:=eq_true h25
 have h26:inb a0 21=true:=by rw [(of_eq_true h25)];decide
 have h27:Int.toNat a0=7:=by rw [(of_eq_true h25)];rfl
 rotate_left
 by_cases h28:a0=8
 replace h28:=eq_true h28
 have h29:inb a0 21=true:=by rw [(of_eq_true h28)];decide
 have h30:Int.toNat a0=8:=by rw [(of_eq_true h28)];rfl
 rotate_left
 by_cases h31:a0=9
 replace h31:=eq_true h31
 have h32:inb a0 21=true:=by rw [(of_eq_true h31)];decide
 have h33:Int.toNat a0=9:=by rw [(of_eq_true h31)];rfl
 rotate_left
 by_cases h34:a0=10
 replace h34:=eq_true h34
 have h35:inb a0 21=true:=by rw [(of_eq_true h34)];decide
 have h36:Int.toNat a0=10:=by rw [(of_eq_true h34)];rfl
 rotate_left
 by_cases h37:a0=11
 replace h37:=eq_true h37
 have h38:inb a0 21=true:=by rw [(of_eq_true h37)];decide
 have h39:Int.toNat a0=11:=by rw [(of_eq_true h37)];rfl
 rotate_left
 by_cases h40:a0=12
 replace h40:=eq_true h40
 have h41:inb a0 21=true:=by rw [(of_eq_true h40)];decide
 have h42:Int.toNat a0=12:=by rw [(of_eq_true h40)];rfl
 rotate_left
 by_cases h43:a0=13
 replace h43:=eq_true h43
 have h44:inb a0 21=true:=by rw [(of_eq_true h43)];decide
 have h45:Int.toNat a0=13:=by rw [(of_eq_true h43)];rfl
 rotate_left
 by_cases h46:a0=14
 replace h46:=eq_true h46
 have h47:inb a0 21=true:=by rw [(of_eq_true h46)];decide
 have h48:Int.toNat a0=14:=by rw [(of_eq_true h46)];rfl
 rotate_left
 by_cases h49:a0=15
 replace h49:=eq_true h49
 have h50:inb a0 21=true:=by rw [(of_eq_true h49)];decide
 have h51:Int.toNat a0=15:=by rw [(of_eq_true h49)];rfl
 rotate_left
 by_cases h52:a0=16
 replace h52:=eq_true h52
 have h53:inb a0 21=true:=by rw [(of_eq_true h52)];decide
 have h54:Int.toNat a0=16:=by rw [(of_eq_true h52)];rfl
 rotate_left
 by_cases h55:a0=17
 replace h55:=eq_true h55
 have h56:inb a0 21=true:=by rw [(of_eq_true h55)];decide
 have h57:Int.toNat a0=17:=by rw [(of_eq_true h55)];rfl
 rotate_left
 by_cases h58:a0=18
 replace h58:=eq_true h58
 have h59:inb a0 21=true:=by rw [(of_eq_true h58)];decide
 have h60:Int.toNat a0=18:=by rw [(of_eq_true h58)];rfl
 rotate_left
 by_cases h61:a0=19
 replace h61:=eq_true h61
 have h62:inb a0 21=true:=by rw [(of_eq_true h61)];decide
 have h63:Int.toNat a0=19:=by rw [(of_eq_true h61)];rfl
 rotate_left
 by_cases h64:a0=20
 replace h64:=eq_true h64
 have h65:inb a0 21=true:=by rw [(of_eq_true h64)];decide
 have h66:Int.toNat a0=20:=by rw [(of_eq_true h64)];rfl
 rotate_left
 have h67:inb a0 21=false:=by simp only [inb,Bool.and_eq_false_iff,decide_eq_false_iff_not];omega
 all_goals simp -implicitDefEqProofs only [*,a103,vgate_table,EVA.down,ne_eq,seval]
theorem vgate_of {D F n:Nat}{args:List AV}{h:AHeap}:OV F (D+1) 103 args h n (n+1)=evW 3 (OV F D) F a103 (frzs (frz true 0 (bif AV.nors args then [] else h) 8) args) (AV.nors args) (hglb h 3):=evV_frozen rfl
theorem egate_Arity (D:Nat)(hD:2≤D)(F:Nat)(a0:Int)(q:Bool):evW 3 (OV F D) F a92 (some [.i .i64 a0]) q G0 =
 match Pgate_Arity a0 with|none=>none|some r0=>some (.i .i64 r0,none):=by
 obtain ⟨D,rfl⟩:=dex hD
 have cgate_of0:=egate_of (D+1) (by omega) F
 rw [evW_some,G0]
 simp only [Pgate_Arity]
 rcases h1:(Pgate_of a0) with _|⟨r1,r2,r3,r4⟩
 all_goals simp -implicitDefEqProofs only [*,a92,vgate_of,EVA.down,ne_eq,seval]
theorem vgate_Arity {D F n:Nat}{args:List AV}{h:AHeap}:OV F (D+1) 92 args h n (n+1)=evW 3 (OV F D) F a92 (frzs (frz true 0 (bif AV.nors args then [] else h) 8) args) (AV.nors args) (hglb h 3):=evV_frozen rfl
theorem lslices_Index_intL0 (D:Nat)(hD:0≤D)(F:Nat)(v0:List Int)(v1 v2:Int)(K:AE→AS→Option Res):∀ (f:Nat) (v3:Int) (s:AS),s.keep [0,1,7,8] []=some ⟨[(0,.vs v0.length .unk (enc c3 v0)),(1,.i .i64 v1),(7,.i .i64 v2),(8,.i .i64 v3)],[],[(1,tab64)],3⟩→
 evLoop (evC (OV F D) 3 F a73L0) f s K=match Pslices_Index_intL0 v0 v1 v2 f v3 with|none=>none|some (.inl y0)=>K .ret ⟨[(4,.i .i64 y0)],[],[(1,tab64)],3⟩|some (.inr _)=>K (.ex 0) ⟨[],[],[(1,tab64)],3⟩:=by
 intro f
 induction f with
 |zero=>intro v3 s hs;simp only [evLoop,Pslices_Index_intL0]
 |succ f ih=>
 intro v3 s hs
 obtain ⟨k0,hk,hn,he,hr⟩:=@lk_all (OV F (D)) 3 F a73L0 f K
 rw [loop_succ,hk,a73L0,runC_cut,hs]
 clear hs
 simp only [Pslices_Index_intL0]
 clear hk
 by_cases h1:v3<v2
 rcases ixo (@pk_c3 v0 v3) with h2|⟨x1,h2⟩
 rotate_left
 by_cases h3:v1=x1
 replace h3:=eq_true h3
 all_goals simp -implicitDefEqProofs only [*,-ih,EVA.down,ne_eq,seval]
 all_goals exact ih _ _ (by simp only [*,-ih,EVA.down,ne_eq,seval])
theorem eslices_Index_int (D:Nat)(hD:0≤D)(F:Nat)(a0:List Int)(a1:Int)(q:Bool):evW 3 (OV F D) F a73 (some [.vs a0.length .unk (enc c3 a0),.i .i64 a1]) q G0 =
 match Pslices_Index_int F a0 a1 with|none=>none|some r0=>some (.i .i64 r0,none):=by
 rw [evW_some,G0]
 simp only [Pslices_Index_int]
 simp -implicitDefEqProofs only [*,a73,runC_loop,EVA.down,ne_eq,seval]
 rw [lslices_Index_intL0 (D) (by omega) F a0 a1 (a0.length:Int) _ F 0 _ (by simp only [*,a73,EVA.down,ne_eq,seval];try rfl)]
 rcases h1:(Pslices_Index_intL0 a0 a1 (a0.length:Int) F 0) with _|(y1|_)
 all_goals simp -implicitDefEqProofs only [*,a73,EVA.down,ne_eq,seval]
theorem vslices_Index_int {D F n:Nat}{args:List AV}{h:AHeap}:OV F (D+1) 73 args h n (n+1)=evW 3 (OV F D) F a73 (frzs (frz true 0 (bif AV.nors args then [] else h) 8) args) (AV.nors args) (hglb h 3):=evV_frozen rfl
theorem eslices_Contains_int (D:Nat)(hD:1≤D)(F:Nat)(a0:List Int)(a1:Int)(q:Bool):evW 3 (OV F D) F a56 (some [.vs a0.length .unk (enc c3 a0),.i .i64 a1]) q G0 =
 match Pslices_Contains_int F a0 a1 with|none=>none|some r0=>some (.b r0,none):=by
 obtain ⟨D,rfl⟩:=dex hD
 have cslices_Index_int0:=eslices_Index_int (D) (by omega) F
 rw [evW_some,G0]
 simp only [Pslices_Contains_int]
 rcases h1:(Pslices_Index_int F a0 a1) with _|r1
 all_goals simp -implicitDefEqProofs only [*,a56,vslices_Index_int,EVA.down,ne_eq,seval]
theorem vslices_Contains_int {D F n:Nat}{args:List AV}{h:AHeap}:OV F (D+1) 56 args h n (n+1)=evW 3 (OV F D) F a56 (frzs (frz true 0 (bif AV.nors args then [] else h) 8) args) (AV.nors args) (hglb h 3):=evV_frozen rfl
theorem lgate_CheckL0 (D:Nat)(hD:2≤D)(F:Nat)(v0:List Int)(v1:Int)(v2:List Int)(v3:Int)(K:AE→AS→Option Res):∀ (f:Nat) (v4:Int) (s:AS),s.keep [1,2,17,18,19] []=some ⟨[(1,.vs v0.length .unk (enc c3 v0)),(2,.i .i64 v1),(17,.vs v2.length .unk (enc c3 v2)),(18,.i .i64 v3),(19,.i .i64 v4)],[],[(1,tab64)],3⟩→
 evLoop (evC (OV F D) 3 F a71L0) f s K=match Pgate_CheckL0 F v0 v1 v2 v3 f v4 with|none=>none|some (.inl _)=>K .ret ⟨[(6,.i .i64 (61))],[],[(1,tab64)],3⟩|some (.inr _)=>K (.ex 0) ⟨[],[],[(1,tab64)],3⟩:=by
 obtain ⟨D,rfl⟩:=dex hD
 have cslices_Contains_int0:=eslices_Contains_int (D+1) (by omega) F
 intro f
 induction f with
 |zero=>intro v4 s hs;simp only [evLoop,Pgate_CheckL0]
 |succ f ih=>
 intro v4 s hs
 obtain ⟨k0,hk,hn,he,hr⟩:=@lk_all (OV F (D+2)) 3 F a71L0 f K
 rw [loop_succ,hk,a71L0,runC_cut,hs]
 clear hs
 simp only [Pgate_CheckL0]
 clear hk
 by_cases h1:v4<v3
 rcases ixo (@pk_c3 v2 v4) with h2|⟨x1,h2⟩
 rotate_left
 by_cases h3:x1<0
 rotate_left
 by_cases h4:x1≥v1
 rotate_left
 by_cases h5:0≤v4∧v4≤(v0.length:Int)
 have h6:∀ cap x,AV.vs v4.toNat cap x=AV.vs (v0.take v4.toNat).length cap x:=by intro cap x;congr 1;simp only [List.length_take,List.length_drop];omega
 rcases h7:(Pslices_Contains_int F (v0.take v4.toNat) x1) with _|r2
 rotate_left
 rcases h8:(r2) with _|_
 all_goals simp -implicitDefEqProofs only [*,-ih,vslices_Contains_int,EVA.down,ne_eq,seval]
 all_goals exact ih _ _ (by simp only [*,-ih,vslices_Contains_int,EVA.down,ne_eq,seval])
theorem egate_Check (D:Nat)(hD:3≤D)(F:Nat)(a0:Int)(a1:List Int)(a2:Int)(q:Bool):evW 3 (OV F D) F a71 (some [.i .i64 a0,.vs a1.length .unk (enc c3 a1),.i .i64 a2]) q G0 =
 match Pgate_Check F a0 a1 a2 with|none=>none|some r0=>some (.i .i64 r0,none):=by
 obtain ⟨D,rfl⟩:=dex hD
 have cgate_Arity0:=egate_Arity (D+2) (by omega) F
 rw [evW_some,G0]
 simp only [Pgate_Check]
 rcases h1:(Pgate_Arity a0) with _|r1
 rotate_left
 by_cases h2:r1=0
 replace h2:=eq_true h2
 rotate_left
 by_cases h3:(a1.length:Int)=r1
 replace h3:=eq_true h3
 simp -implicitDefEqProofs only [*,a71,vgate_Arity,runC_loop,EVA.down,ne_eq,seval]
 rw [lgate_CheckL0 (D+3) (by omega) F a1 a2 a1 (a1.length:Int) _ F 0 _ (by simp only [*,a71,vgate_Arity,EVA.down,ne_eq,seval];try rfl)]
 rcases h4:(Pgate_CheckL0 F a1 a2 a1 (a1.length:Int) F 0) with _|(_|_)
 all_goals simp -implicitDefEqProofs only [*,a71,vgate_Arity,EVA.down,ne_eq,seval]
theorem vgate_Check {D F n:Nat}{args:List AV}{h:AHeap}:OV F (D+1) 71 args h n (n+1)=evW 3 (OV F D) F a71 (frzs (frz true 0 (bif AV.nors args then [] else h) 8) args) (AV.nors args) (hglb h 3):=evV_frozen rfl
theorem lcircuit_mayL0 (D:Nat)(hD:2≤D)(F:Nat)(v0 v1:Int)(v2:List Int)(v3 v5 v6:Int)(v7:List Int)(v8 v9 v10:Int)(K:AE→AS→Option Res):∀ (f:Nat) (v4:Int) (s:AS),s.keep [1,2,3,79,80,81] [3]=some ⟨[(1,.i .i64 v0),(2,.i .i64 v1),(3,.lp 3 0),(79,.vs v2.length .unk (enc c3 v2)),(80,.i .i64 v3),(81,.i .i64 v4)],[(3,[.i .i64 v5,.i .i64 v6,.vs v7.length .unk (enc c3 v7),.i .i64 v8,.i .i64 v9,.i .i64 v10])],[(1,tab64)],3⟩→
 evLoop (evC (OV F D) 3 F a52L0) f s K=match Pcircuit_mayL0 F v0 v1 v2 v3 v5 v6 v7 v8 v9 v10 f v4 with|none=>none|some (.inl _)=>K .ret ⟨[(6,.b false)],[],[(1,tab64)],3⟩|some (.inr _)=>K (.ex 0) ⟨[(2,.i .i64 v1),(3,.lp 3 0)],[(3,[.i .i64 v5,.i .i64 v6,.vs v7.length .unk (enc c3 v7),.i .i64 v8,.i .i64 v9,.i .i64 v10])],[(1,tab64)],3⟩:=by
 obtain ⟨D,rfl⟩:=dex hD
 have cslices_Contains_int0:=eslices_Contains_int (D+1) (by omega) F
 intro f
 induction f with
 |zero=>intro v4 s hs;simp only [evLoop,Pcircuit_mayL0]
 |succ f ih=>
 intro v4 s hs
 obtain ⟨k0,hk,hn,he,hr⟩:=@lk_all (OV F (D+2)) 3 F a52L0 f K
 rw [loop_succ,hk,a52L0,runC_cut,hs]
 clear hs
 simp only [Pcircuit_mayL0]
 clear hk
 by_cases h1:v4<v3
 rcases ixo (@pk_c3 v2 v4) with h2|⟨x1,h2⟩
 rotate_left
 by_cases h3:x1<0
 rotate_left
 by_cases h4:x1≥v0
 rotate_left
 by_cases h5:0≤v4∧v4≤(v7.length:Int)
 have h6:∀ cap x,AV.vs v4.toNat cap x=AV.vs (v7.take v4.toNat).length cap x:=by intro cap x;congr 1;simp only [List.length_take,List.length_drop];omega
 rcases h7:(Pslices_Contains_int F (v7.take v4.toNat) x1) with _|r2
 rotate_left
 rcases h8:(r2) with _|_
 all_goals simp -implicitDefEqProofs only [*,-ih,vslices_Contains_int,EVA.down,ne_eq,seval]
 all_goals exact ih _ _ (by simp only [*,-ih,vslices_Contains_int,EVA.down,ne_eq,seval])
theorem ecircuit_may (D:Nat)(hD:4≤D)(F:Nat)(a0_Kind a0_Gate:Int)(a0_Qubits:List Int)(a0_Bit a0_If a0_When a1 a2:Int)(q:Bool):evW 3 (OV F D) F a52 (some [.agg [.i .i64 a0_Kind,.i .i64 a0_Gate,.vs a0_Qubits.length .unk (enc c3 a0_Qubits),.i .i64 a0_Bit,.i .i64 a0_If,.i .i64 a0_When],.i .i64 a1,.i .i64 a2]) q G0 =
 match Pcircuit_may F a0_Kind a0_Gate a0_Qubits a0_Bit a0_If a0_When a1 a2 with|none=>none|some r0=>some (.b r0,none):=by
 obtain ⟨D,rfl⟩:=dex hD
 have cgate_Check0:=egate_Check (D+3) (by omega) F
 rw [evW_some,G0]
 simp only [Pcircuit_may]
 by_cases h1:a0_Kind=1
 replace h1:=eq_true h1
 by_cases h2:a0_If=(((-1):Int))
 replace h2:=eq_true h2
 by_cases h3:a0_If≥0
 by_cases h4:a0_If<a2
 by_cases h5:a0_When=0
 replace h5:=eq_true h5
 rcases h6:(Pgate_Check F a0_Gate a0_Qubits a1) with _|r1
 rotate_left
 by_cases h7:r1=0
 replace h7:=eq_true h7
 by_cases h8:a0_Bit=0
 replace h8:=eq_true h8
 rotate_left
 rotate_left
 rotate_left
 rcases h9:(Pgate_Check F a0_Gate a0_Qubits a1) with _|r2
 rotate_left
 by_cases h10:r2=0
 replace h10:=eq_true h10
 by_cases h11:a0_Bit=0
 replace h11:=eq_true h11
 rotate_left
 rotate_left
 rotate_left
 rcases h12:(Pgate_Check F a0_Gate a0_Qubits a1) with _|r3
 rotate_left
 by_cases h13:r3=0
 replace h13:=eq_true h13
 by_cases h14:a0_Bit=0
 replace h14:=eq_true h14
 by_cases h15:a0_When=0
 replace h15:=eq_true h15
 rotate_left
 rotate_left
 rotate_left
 rotate_left
 rcases h16:(Pgate_Check F a0_Gate a0_Qubits a1) with _|r4
 rotate_left
 by_cases h17:r4=0
 replace h17:=eq_true h17
 by_cases h18:a0_Bit=0
 replace h18:=eq_true h18
 by_cases h19:a0_When=0
 replace h19:=eq_true h19
 rotate_left
 rotate_left
 rotate_left
 rotate_left
 by_cases h20:a0_If≥0
 by_cases h21:a0_If<a2
 by_cases h22:a0_When=0
 replace h22:=eq_true h22
 rcases h23:(Pgate_Check F a0_Gate a0_Qubits a1) with _|r5
 rotate_left
 by_cases h24:r5=0
 replace h24:=eq_true h24
 by_cases h25:a0_Bit=0
 replace h25:=eq_true h25
 rotate_left
 rotate_left
 rotate_left
 rcases h26:(Pgate_Check F a0_Gate a0_Qubits a1) with _|r6
 rotate_left
 by_cases h27:r6=0
 replace h27:=eq_true h27
 by_cases h28:a0_Bit=0
 replace h28:=eq_true h28
 rotate_left
 rotate_left
 rotate_left
 rcases h29:(Pgate_Check F a0_Gate a0_Qubits a1) with _|r7
 rotate_left
 by_cases h30:r7=0
 replace h30:=eq_true h30
 by_cases h31:a0_Bit=0
 replace h31:=eq_true h31
 rotate_left
 rotate_left
 rotate_left
 rcases h32:(Pgate_Check F a0_Gate a0_Qubits a1) with _|r8
 rotate_left
 by_cases h33:r8=0
 replace h33:=eq_true h33
 by_cases h34:a0_Bit=0
 replace h34:=eq_true h34
 rotate_left
 rotate_left
 rotate_left
 by_cases h35:a0_Gate=0
 replace h35:=eq_true h35
 by_cases h36:a0_If=(((-1):Int))
 replace h36:=eq_true h36
 by_cases h37:a0_When=0
 replace h37:=eq_true h37
 by_cases h38:(a0_Qubits.length:Int)=0
 replace h38:=eq_true h38
 rotate_left
 simp -implicitDefEqProofs only [*,a52,vgate_Check,runC_loop,EVA.down,ne_eq,seval]
 rw [lcircuit_mayL0 (D+4) (by omega) F a1 a2 a0_Qubits (a0_Qubits.length:Int) a0_Kind a0_Gate a0_Qubits a0_Bit a0_If a0_When _ F 0 _ (by simp only [*,a52,vgate_Check,EVA.down,ne_eq,seval];try rfl)]
 rcases h39:(Pcircuit_mayL0 F a1 a2 a0_Qubits (a0_Qubits.length:Int) a0_Kind a0_Gate a0_Qubits a0_Bit a0_If a0_When F 0) with _|(_|_)
 rotate_left
 rotate_left
 by_cases h40:a0_Kind=2
 replace h40:=eq_true h40
 by_cases h41:(a0_Qubits.length:Int)=1
 replace h41:=eq_true h41
 by_cases h42:a0_Bit≥0
 rotate_left
 rotate_left
 rotate_left
 by_cases h43:a0_Kind=3
 replace h43:=eq_true h43
 by_cases h44:(a0_Qubits.length:Int)=1
 replace h44:=eq_true h44
 rotate_left
 rotate_left
 by_cases h45:a0_Kind=4
 replace h45:=eq_true h45
 all_goals simp -implicitDefEqProofs only [*,a52,vgate_Check,EVA.down,ne_eq,seval]
theorem vcircuit_may {D F n:Nat}{args:List AV}{h:AHeap}:OV F (D+1) 52 args h n (n+1)=evW 3 (OV F D) F a52 (frzs (frz true 0 (bif AV.nors args then [] else h) 8) args) (AV.nors args) (hglb h 3):=evV_frozen rfl
theorem lcircuit_CheckL0 (D:Nat)(hD:5≤D)(F:Nat)(v0:List S40)(v1 v3 v4:Int)(v5:List S40)(K:AE→AS→Option Res):∀ (f:Nat) (v2:Int) (s:AS),s.keep [1,31,32,33] [1]=some ⟨[(1,.lp 1 0),(31,.vs v0.length .unk (enc S40.cs v0)),(32,.i .i64 v1),(33,.i .i64 v2)],[(1,[.i .i64 v3,.i .i64 v4,.vs v5.length .unk (enc S40.cs v5)])],[(1,tab64)],3⟩→
 evLoop (evC (OV F D) 3 F a33L0) f s K=match Pcircuit_CheckL0 F v0 v1 v3 v4 v5 f v2 with|none=>none|some (.inl y0)=>K .ret ⟨[(2,.i .i64 y0),(3,.i .i64 (80))],[],[(1,tab64)],3⟩|some (.inr _)=>K (.ex 0) ⟨[],[],[(1,tab64)],3⟩:=by
 obtain ⟨D,rfl⟩:=dex hD
 have ccircuit_may0:=ecircuit_may (D+4) (by omega) F
 intro f
 induction f with
 |zero=>intro v2 s hs;simp only [evLoop,Pcircuit_CheckL0]
 |succ f ih=>
 intro v2 s hs
 obtain ⟨k0,hk,hn,he,hr⟩:=@lk_all (OV F (D+5)) 3 F a33L0 f K
 rw [loop_succ,hk,a33L0,runC_cut,hs]
 clear hs
 simp only [Pcircuit_CheckL0]
 clear hk
 by_cases h1:v2<v1
 rcases ixo (@pk_S40_cs v0 v2) with h2|⟨x1,h2⟩
 rotate_left
 rcases h3:(Pcircuit_may F x1.f_Kind x1.f_Gate x1.f_Qubits x1.f_Bit x1.f_If x1.f_When v3 v4) with _|r2
 rotate_left
 rcases h4:(r2) with _|_
 all_goals simp -implicitDefEqProofs only [*,-ih,vcircuit_may,EVA.down,ne_eq,seval]
 all_goals exact ih _ _ (by simp only [*,-ih,vcircuit_may,EVA.down,ne_eq,seval])
theorem ecircuit_Check (D:Nat)(hD:5≤D)(F:Nat)(a0_Qubits a0_Bits:Int)(a0_Ops:List S40)(q:Bool):evW 3 (OV F D) F a33 (some [.agg [.i .i64 a0_Qubits,.i .i64 a0_Bits,.vs a0_Ops.length .unk (enc S40.cs a0_Ops)]]) q G0 =
 match Pcircuit_Check F a0_Qubits a0_Bits a0_Ops with|none=>none|some (r0,r1)=>some (.tup [.i .i64 r0,.i .i64 r1],none):=by
 obtain ⟨D,rfl⟩:=dex hD
 rw [evW_some,G0]
 simp only [Pcircuit_Check]
 by_cases h1:a0_Qubits<0
 rotate_left
 by_cases h2:a0_Qubits>64
 rotate_left
 by_cases h3:a0_Bits<0
 rotate_left
 by_cases h4:a0_Bits>64
 rotate_left
 by_cases h5:(a0_Ops.length:Int)>4096
 rotate_left
 simp -implicitDefEqProofs only [*,a33,runC_loop,EVA.down,ne_eq,seval]
 rw [lcircuit_CheckL0 (D+5) (by omega) F a0_Ops (a0_Ops.length:Int) a0_Qubits a0_Bits a0_Ops _ F 0 _ (by simp only [*,a33,EVA.down,ne_eq,seval];try rfl)]
 rcases h6:(Pcircuit_CheckL0 F a0_Ops (a0_Ops.length:Int) a0_Qubits a0_Bits a0_Ops F 0) with _|(y1|_)
 all_goals simp -implicitDefEqProofs only [*,a33,EVA.down,ne_eq,seval]
theorem vcircuit_Check {D F n:Nat}{args:List AV}{h:AHeap}:OV F (D+1) 33 args h n (n+1)=evW 3 (OV F D) F a33 (frzs (frz true 0 (bif AV.nors args then [] else h) 8) args) (AV.nors args) (hglb h 3):=evV_frozen rfl
theorem enoise_drawn (D:Nat)(hD:0≤D)(F:Nat)(a0 a1:BitVec 64)(q:Bool):evW 3 (OV F D) F a39 (some [.f .f64 (a0).toNat,.f .f64 (a1).toNat]) q G0 =
 match Pnoise_drawn a0 a1 with|(r0,r1)=>some (.tup [.i .u64 (U r0),.i .u64 (U r1)],none):=by
 have flf_4609434218613702656:AV.f .f64 4609434218613702656=.f .f64 (4609434218613702656#64).toNat:=id rfl
 have flx_4609434218613702656:∀ x,AV.c .f64 x 4609434218613702656=.c .f64 x (4609434218613702656#64).toNat:=fun _=>id rfl
 have fly_4609434218613702656:∀ x,AV.c .f64 4609434218613702656 x=.c .f64 (4609434218613702656#64).toNat x:=fun _=>id rfl
 have flf_4613937818241073152:AV.f .f64 4613937818241073152=.f .f64 (4613937818241073152#64).toNat:=id rfl
 have flx_4613937818241073152:∀ x,AV.c .f64 x 4613937818241073152=.c .f64 x (4613937818241073152#64).toNat:=fun _=>id rfl
 have fly_4613937818241073152:∀ x,AV.c .f64 4613937818241073152 x=.c .f64 (4613937818241073152#64).toNat x:=fun _=>id rfl
 rw [evW_some,G0]
 simp only [Pnoise_drawn]
 rcases h1:(fCmp .lss (fMul a0 4613937818241073152#64) a1) with _|_
 rcases h2:(fCmp .lss (fMul a0 4609434218613702656#64) a1) with _|_
 all_goals simp -implicitDefEqProofs only [*,a39,flf_4609434218613702656,flx_4609434218613702656,fly_4609434218613702656,flf_4613937818241073152,flx_4613937818241073152,fly_4613937818241073152,EVA.down,ne_eq,seval]
theorem vnoise_drawn {D F n:Nat}{args:List AV}{h:AHeap}:OV F (D+1) 39 args h n (n+1)=evW 3 (OV F D) F a39 (frzs (frz true 0 (bif AV.nors args then [] else h) 8) args) (AV.nors args) (hglb h 3):=evV_frozen rfl
theorem lnoise_DrawL0 (D:Nat)(hD:1≤D)(F:Nat)(K:AE→AS→Option Res):∀ (f:Nat) (v0:BitVec 64) (v1:List (BitVec 64)) (v2 v3:Int) (v4:List S40) (v5 v6:Int) (v7:List Int) (v8 v9 v10 v11:Int) (v12:List S40) (v13:List S53) (s:AS),s.keepG 3 [1,2,3,11,12,13,35,36,37,46,47,48] [3]=some ⟨[(1,.f .f64 (v0).toNat),(2,.vs v1.length .unk (enc c43 v1)),(3,.lp 3 0),(11,.sl (some (3,0)) v13.length .op),(12,.i .i64 v2),(13,.i .i64 v3),(35,.vs v4.length .unk (enc S40.cs v4)),(36,.i .i64 v5),(37,.i .i64 v6),(46,.vs v7.length .unk (enc c3 v7)),(47,.i .i64 v8),(48,.i .i64 v9)],[(3,[.i .i64 v10,.i .i64 v11,.vs v12.length .unk (enc S40.cs v12)])],[(3,⟨true,true,53,5,enc S53.cs v13⟩),(1,tab64)],4⟩→
 evLoop (evC (OV F D) 3 F a16L0) f s K=match Pnoise_DrawL0 f v0 v1 v2 v3 v4 v5 v6 v7 v8 v9 v10 v11 v12 v13 with|none=>none|some (.inl _)=>K .ret ⟨[(6,.sl none 0 (.ex 0)),(7,.i .i64 (0)),(8,.i .i64 (240))],[],[(1,tab64)],3⟩|some (.inr (.inl (y0,y1,y2,y3,y4,y5,y6,y7,y8)))=>K (.ex 2) ⟨[(1,.f .f64 (y0).toNat),(2,.vs y1.length .unk (enc c43 y1)),(3,.lp 3 0),(11,.sl none 0 (.ex 0)),(12,.i .i64 y2),(35,.vs y3.length .unk (enc S40.cs y3)),(36,.i .i64 y4),(37,.i .i64 y5)],[(3,[.i .i64 y6,.i .i64 y7,.vs y8.length .unk (enc S40.cs y8)])],[(1,tab64)],3⟩|some (.inr (.inr (y0,y1,y2,y3,y4,y5,y6,y7,y8,y9)))=>K (.ex 2) ⟨[(1,.f .f64 (y0).toNat),(2,.vs y1.length .unk (enc c43 y1)),(3,.lp 3 0),(11,.sl (some (3,0)) y9.length .op),(12,.i .i64 y2),(35,.vs y3.length .unk (enc S40.cs y3)),(36,.i .i64 y4),(37,.i .i64 y5)],[(3,[.i .i64 y6,.i .i64 y7,.vs y8.length .unk (enc S40.cs y8)])],[(3,⟨true,true,53,5,enc S53.cs y9⟩),(1,tab64)],4⟩:=by
 obtain ⟨D,rfl⟩:=dex hD
 have flf_0:AV.f .f64 0=.f .f64 (0#64).toNat:=id rfl
 have flx_0:∀ x,AV.c .f64 x 0=.c .f64 x (0#64).toNat:=fun _=>id rfl
 have fly_0:∀ x,AV.c .f64 0 x=.c .f64 (0#64).toNat x:=fun _=>id rfl
 have flf_4607182418800017408:AV.f .f64 4607182418800017408=.f .f64 (4607182418800017408#64).toNat:=id rfl
 have flx_4607182418800017408:∀ x,AV.c .f64 x 4607182418800017408=.c .f64 x (4607182418800017408#64).toNat:=fun _=>id rfl
 have fly_4607182418800017408:∀ x,AV.c .f64 4607182418800017408 x=.c .f64 (4607182418800017408#64).toNat x:=fun _=>id rfl
 have cnoise_drawn0:=enoise_drawn (D) (by omega) F
 intro f
 induction f with
 |zero=>intro v0 v1 v2 v3 v4 v5 v6 v7 v8 v9 v10 v11 v12 v13 s hs;simp only [evLoop,Pnoise_DrawL0]
 |succ f ih=>
 intro v0 v1 v2 v3 v4 v5 v6 v7 v8 v9 v10 v11 v12 v13 s hs
 obtain ⟨k0,hk,hn,he,hr⟩:=@lk_all (OV F (D+1)) 3 F a16L0 f K
 rw [loop_succ,hk,a16L0,runC_cutg,hs]
 clear hs
 simp only [Pnoise_DrawL0]
 clear hk
 by_cases h1:v9<v8
 rcases ixo (@pk_c3 v7 v9) with h2|⟨x1,h2⟩
 rotate_left
 by_cases h3:v2≥(v1.length:Int)
 rotate_left
 rcases ixo (@pk_c43 v1 v2) with h4|⟨x2,h4⟩
 rotate_left
 rcases h5:(fCmp .geq x2 0#64) with _|_
 rotate_left
 rcases h6:(fCmp .lss x2 4607182418800017408#64) with _|_
 rotate_left
 rcases h7:(fCmp .lss x2 v0) with _|_
 rotate_left
 rcases h8:(Pnoise_drawn x2 v0) with ⟨r3,r4⟩
 by_cases h9:x1<0
 rotate_left
 by_cases h10:(v13.length+1)*40≤140737488355328
 all_goals simp -implicitDefEqProofs only [*,-ih,flf_0,flx_0,fly_0,flf_4607182418800017408,flx_4607182418800017408,fly_4607182418800017408,vnoise_drawn,EVA.down,ne_eq,seval]
 all_goals exact ih _ _ _ _ _ _ _ _ _ _ _ _ _ _ _ (by simp only [*,-ih,flf_0,flx_0,fly_0,flf_4607182418800017408,flx_4607182418800017408,fly_4607182418800017408,vnoise_drawn,EVA.down,ne_eq,seval])
theorem lnoise_DrawL1 (D:Nat)(hD:1≤D)(F:Nat)(K:AE→AS→Option Res):∀ (f:Nat) (v0:BitVec 64) (v1:List (BitVec 64)) (v2 v3:Int) (v4:List S40) (v5 v6:Int) (v7:List Int) (v8 v9 v10 v11:Int) (v12:List S40) (s:AS),s.keepG 3 [1,2,3,11,12,13,35,36,37,46,47,48] [3]=some ⟨[(1,.f .f64 (v0).toNat),(2,.vs v1.length .unk (enc c43 v1)),(3,.lp 3 0),(11,.sl none 0 (.ex 0)),(12,.i .i64 v2),(13,.i .i64 v3),(35,.vs v4.length .unk (enc S40.cs v4)),(36,.i .i64 v5),(37,.i .i64 v6),(46,.vs v7.length .unk (enc c3 v7)),(47,.i .i64 v8),(48,.i .i64 v9)],[(3,[.i .i64 v10,.i .i64 v11,.vs v12.length .unk (enc S40.cs v12)])],[(1,tab64)],3⟩→
 evLoop (evC (OV F D) 3 F a16L0) f s K=match Pnoise_DrawL1 f v0 v1 v2 v3 v4 v5 v6 v7 v8 v9 v10 v11 v12 with|none=>none|some (.inl _)=>K .ret ⟨[(6,.sl none 0 (.ex 0)),(7,.i .i64 (0)),(8,.i .i64 (240))],[],[(1,tab64)],3⟩|some (.inr (.inl (y0,y1,y2,y3,y4,y5,y6,y7,y8)))=>K (.ex 2) ⟨[(1,.f .f64 (y0).toNat),(2,.vs y1.length .unk (enc c43 y1)),(3,.lp 3 0),(11,.sl none 0 (.ex 0)),(12,.i .i64 y2),(35,.vs y3.length .unk (enc S40.cs y3)),(36,.i .i64 y4),(37,.i .i64 y5)],[(3,[.i .i64 y6,.i .i64 y7,.vs y8.length .unk (enc S40.cs y8)])],[(1,tab64)],3⟩|some (.inr (.inr (y0,y1,y2,y3,y4,y5,y6,y7,y8,y9)))=>K (.ex 2) ⟨[(1,.f .f64 (y0).toNat),(2,.vs y1.length .unk (enc c43 y1)),(3,.lp 3 0),(11,.sl (some (3,0)) y9.length .op),(12,.i .i64 y2),(35,.vs y3.length .unk (enc S40.cs y3)),(36,.i .i64 y4),(37,.i .i64 y5)],[(3,[.i .i64 y6,.i .i64 y7,.vs y8.length .unk (enc S40.cs y8)])],[(3,⟨true,true,53,5,enc S53.cs y9⟩),(1,tab64)],4⟩:=by
 obtain ⟨D,rfl⟩:=dex hD
 have flf_0:AV.f .f64 0=.f .f64 (0#64).toNat:=id rfl
 have flx_0:∀ x,AV.c .f64 x 0=.c .f64 x (0#64).toNat:=fun _=>id rfl
 have fly_0:∀ x,AV.c .f64 0 x=.c .f64 (0#64).toNat x:=fun _=>id rfl
 have flf_4607182418800017408:AV.f .f64 4607182418800017408=.f .f64 (4607182418800017408#64).toNat:=id rfl
 have flx_4607182418800017408:∀ x,AV.c .f64 x 4607182418800017408=.c .f64 x (4607182418800017408#64).toNat:=fun _=>id rfl
 have fly_4607182418800017408:∀ x,AV.c .f64 4607182418800017408 x=.c .f64 (4607182418800017408#64).toNat x:=fun _=>id rfl
 have cnoise_drawn0:=enoise_drawn (D) (by omega) F
 have nlnoise_DrawL0:=lnoise_DrawL0 (D+1) (by omega) F K
 intro f
 induction f with
 |zero=>intro v0 v1 v2 v3 v4 v5 v6 v7 v8 v9 v10 v11 v12 s hs;simp only [evLoop,Pnoise_DrawL1]
 |succ f ih=>
 intro v0 v1 v2 v3 v4 v5 v6 v7 v8 v9 v10 v11 v12 s hs
 obtain ⟨k0,hk,hn,he,hr⟩:=@lk_all (OV F (D+1)) 3 F a16L0 f K
 rw [loop_succ,hk,a16L0,runC_cutg,hs]
 clear hs
 simp only [Pnoise_DrawL1]
 clear hk
 by_cases h1:v9<v8
 rcases ixo (@pk_c3 v7 v9) with h2|⟨x1,h2⟩
 rotate_left
 by_cases h3:v2≥(v1.length:Int)
 rotate_left
 rcases ixo (@pk_c43 v1 v2) with h4|⟨x2,h4⟩
 rotate_left
 rcases h5:(fCmp .geq x2 0#64) with _|_
 rotate_left
 rcases h6:(fCmp .lss x2 4607182418800017408#64) with _|_
 rotate_left
 rcases h7:(fCmp .lss x2 v0) with _|_
 rotate_left
 rcases h8:(Pnoise_drawn x2 v0) with ⟨r3,r4⟩
 by_cases h9:x1<0
 all_goals simp -implicitDefEqProofs only [*,-ih,flf_0,flx_0,fly_0,flf_4607182418800017408,flx_4607182418800017408,fly_4607182418800017408,vnoise_drawn,EVA.down,ne_eq,seval]
 all_goals first|exact ih _ _ _ _ _ _ _ _ _ _ _ _ _ _ (by simp only [*,-ih,flf_0,flx_0,fly_0,flf_4607182418800017408,flx_4607182418800017408,fly_4607182418800017408,vnoise_drawn,EVA.down,ne_eq,seval])|exact nlnoise_DrawL0 f _ _ _ _ _ _ _ _ _ _ _ _ _ _ _ (by simp only [*,-ih,flf_0,flx_0,fly_0,flf_4607182418800017408,flx_4607182418800017408,fly_4607182418800017408,vnoise_drawn,EVA.down,ne_eq,seval])
theorem lnoise_DrawL2 (D:Nat)(hD:1≤D)(F:Nat)(v0:BitVec 64)(v1:List (BitVec 64))(v3:Int)(v4:List S40)(v5 v6:Int)(v7:List Int)(v8 v10 v11:Int)(v12:List S40)(K:AE→AS→Option Res):∀ (f:Nat) (v2 v9:Int) (v13:List S53) (s:AS),s.keepG 3 [1,2,3,11,12,13,35,36,37,46,47,48] [3]=some ⟨[(1,.f .f64 (v0).toNat),(2,.vs v1.length .unk (enc c43 v1)),(3,.lp 3 0),(11,.sl (some (3,0)) v13.length .op),(12,.i .i64 v2),(13,.i .i64 v3),(35,.vs v4.length .unk (enc S40.cs v4)),(36,.i .i64 v5),(37,.i .i64 v6),(46,.vs v7.length .unk (enc c3 v7)),(47,.i .i64 v8),(48,.i .i64 v9)],[(3,[.i .i64 v10,.i .i64 v11,.vs v12.length .unk (enc S40.cs v12)])],[(3,⟨true,true,53,5,enc S53.cs v13⟩),(1,tab64)],4⟩→
 evLoop (evC (OV F D) 3 F a16L0) f s K=match Pnoise_DrawL2 v0 v1 v3 v4 v5 v6 v7 v8 v10 v11 v12 f v2 v9 v13 with|none=>none|some (.inl _)=>K .ret ⟨[(6,.sl none 0 (.ex 0)),(7,.i .i64 (0)),(8,.i .i64 (240))],[],[(1,tab64)],3⟩|some (.inr (y0,y1))=>K (.ex 2) ⟨[(1,.f .f64 (v0).toNat),(2,.vs v1.length .unk (enc c43 v1)),(3,.lp 3 0),(11,.sl (some (3,0)) y1.length .op),(12,.i .i64 y0),(35,.vs v4.length .unk (enc S40.cs v4)),(36,.i .i64 v5),(37,.i .i64 v6)],[(3,[.i .i64 v10,.i .i64 v11,.vs v12.length .unk (enc S40.cs v12)])],[(3,⟨true,true,53,5,enc S53.cs y1⟩),(1,tab64)],4⟩:=by
 obtain ⟨D,rfl⟩:=dex hD
 have flf_0:AV.f .f64 0=.f .f64 (0#64).toNat:=id rfl
 have flx_0:∀ x,AV.c .f64 x 0=.c .f64 x (0#64).toNat:=fun _=>id rfl
 have fly_0:∀ x,AV.c .f64 0 x=.c .f64 (0#64).toNat x:=fun _=>id rfl
 have flf_4607182418800017408:AV.f .f64 4607182418800017408=.f .f64 (4607182418800017408#64).toNat:=id rfl
 have flx_4607182418800017408:∀ x,AV.c .f64 x 4607182418800017408=.c .f64 x (4607182418800017408#64).toNat:=fun _=>id rfl
 have fly_4607182418800017408:∀ x,AV.c .f64 4607182418800017408 x=.c .f64 (4607182418800017408#64).toNat x:=fun _=>id rfl
 have cnoise_drawn0:=enoise_drawn (D) (by omega) F
 intro f
 induction f with
 |zero=>intro v2 v9 v13 s hs;simp only [evLoop,Pnoise_DrawL2]
 |succ f ih=>
 intro v2 v9 v13 s hs
 obtain ⟨k0,hk,hn,he,hr⟩:=@lk_all (OV F (D+1)) 3 F a16L0 f K
 rw [loop_succ,hk,a16L0,runC_cutg,hs]
 clear hs
 simp only [Pnoise_DrawL2]
 clear hk
 by_cases h1:v9<v8
 rcases ixo (@pk_c3 v7 v9) with h2|⟨x1,h2⟩
 rotate_left
 by_cases h3:v2≥(v1.length:Int)
 rotate_left
 rcases ixo (@pk_c43 v1 v2) with h4|⟨x2,h4⟩
 rotate_left
 rcases h5:(fCmp .geq x2 0#64) with _|_
 rotate_left
 rcases h6:(fCmp .lss x2 4607182418800017408#64) with _|_
 rotate_left
 rcases h7:(fCmp .lss x2 v0) with _|_
 rotate_left
 rcases h8:(Pnoise_drawn x2 v0) with ⟨r3,r4⟩
 by_cases h9:x1<0
 rotate_left
 by_cases h10:(v13.length+1)*40≤140737488355328
 all_goals simp -implicitDefEqProofs only [*,-ih,flf_0,flx_0,fly_0,flf_4607182418800017408,flx_4607182418800017408,fly_4607182418800017408,vnoise_drawn,EVA.down,ne_eq,seval]
 all_goals exact ih _ _ _ _ (by simp only [*,-ih,flf_0,flx_0,fly_0,flf_4607182418800017408,flx_4607182418800017408,fly_4607182418800017408,vnoise_drawn,EVA.down,ne_eq,seval])
theorem lnoise_DrawL3 (D:Nat)(hD:1≤D)(F:Nat)(K:AE→AS→Option Res):∀ (f:Nat) (v0:BitVec 64) (v1:List (BitVec 64)) (v2:Int) (v3:List S40) (v4 v5 v6 v7:Int) (v8:List S40) (v9:List S53) (s:AS),s.keepG 3 [1,2,3,11,12,35,36,37] [3]=some ⟨[(1,.f .f64 (v0).toNat),(2,.vs v1.length .unk (enc c43 v1)),(3,.lp 3 0),(11,.sl (some (3,0)) v9.length .op),(12,.i .i64 v2),(35,.vs v3.length .unk (enc S40.cs v3)),(36,.i .i64 v4),(37,.i .i64 v5)],[(3,[.i .i64 v6,.i .i64 v7,.vs v8.length .unk (enc S40.cs v8)])],[(3,⟨true,true,53,5,enc S53.cs v9⟩),(1,tab64)],4⟩→
 evLoop (evC (OV F D) 3 F a16L1) f s K=match Pnoise_DrawL3 F f v0 v1 v2 v3 v4 v5 v6 v7 v8 v9 with|none=>none|some (.inl _)=>K .ret ⟨[(6,.sl none 0 (.ex 0)),(7,.i .i64 (0)),(8,.i .i64 (240))],[],[(1,tab64)],3⟩|some (.inr (.inl y0))=>K (.ex 0) ⟨[(11,.sl none 0 (.ex 0)),(12,.i .i64 y0)],[],[(1,tab64)],3⟩|some (.inr (.inr (y0,y1)))=>K (.ex 0) ⟨[(11,.sl (some (3,0)) y1.length .op),(12,.i .i64 y0)],[],[(3,⟨true,true,53,5,enc S53.cs y1⟩),(1,tab64)],4⟩:=by
 obtain ⟨D,rfl⟩:=dex hD
 intro f
 induction f with
 |zero=>intro v0 v1 v2 v3 v4 v5 v6 v7 v8 v9 s hs;simp only [evLoop,Pnoise_DrawL3]
 |succ f ih=>
 intro v0 v1 v2 v3 v4 v5 v6 v7 v8 v9 s hs
 obtain ⟨k0,hk,hn,he,hr⟩:=@lk_all (OV F (D+1)) 3 F a16L1 f K
 rw [loop_succ,hk,a16L1,runC_cutg,hs]
 clear hs
 simp only [Pnoise_DrawL3]
 clear hk
 by_cases h1:v5<v4
 rcases ixo (@pk_S40_cs v3 v5) with h2|⟨x1,h2⟩
 rotate_left
 by_cases h3:x1.f_Kind=1
 replace h3:=eq_true h3
 simp -implicitDefEqProofs only [*,-ih,runC_loop,EVA.down,ne_eq,seval]
 rw [lnoise_DrawL2 (D+1) (by omega) F v0 v1 v5 v3 v4 v5 x1.f_Qubits (x1.f_Qubits.length:Int) v6 v7 v8 _ F v2 0 v9 _ (by simp only [*,-ih,EVA.down,ne_eq,seval];try rfl)]
 rcases h4:(Pnoise_DrawL2 v0 v1 v5 v3 v4 v5 x1.f_Qubits (x1.f_Qubits.length:Int) v6 v7 v8 F v2 0 v9) with _|(_|⟨y2,y3⟩)
 all_goals simp -implicitDefEqProofs only [*,-ih,EVA.down,ne_eq,seval]
 all_goals exact ih _ _ _ _ _ _ _ _ _ _ _ (by simp only [*,-ih,EVA.down,ne_eq,seval])
theorem lnoise_DrawL4 (D:Nat)(hD:1≤D)(F:Nat)(K:AE→AS→Option Res):∀ (f:Nat) (v0:BitVec 64) (v1:List (BitVec 64)) (v2:Int) (v3:List S40) (v4 v5 v6 v7:Int) (v8:List S40) (s:AS),s.keepG 3 [1,2,3,11,12,35,36,37] [3]=some ⟨[(1,.f .f64 (v0).toNat),(2,.vs v1.length .unk (enc c43 v1)),(3,.lp 3 0),(11,.sl none 0 (.ex 0)),(12,.i .i64 v2),(35,.vs v3.length .unk (enc S40.cs v3)),(36,.i .i64 v4),(37,.i .i64 v5)],[(3,[.i .i64 v6,.i .i64 v7,.vs v8.length .unk (enc S40.cs v8)])],[(1,tab64)],3⟩→
 evLoop (evC (OV F D) 3 F a16L1) f s K=match Pnoise_DrawL4 F f v0 v1 v2 v3 v4 v5 v6 v7 v8 with|none=>none|some (.inl _)=>K .ret ⟨[(6,.sl none 0 (.ex 0)),(7,.i .i64 (0)),(8,.i .i64 (240))],[],[(1,tab64)],3⟩|some (.inr (.inl y0))=>K (.ex 0) ⟨[(11,.sl none 0 (.ex 0)),(12,.i .i64 y0)],[],[(1,tab64)],3⟩|some (.inr (.inr (y0,y1)))=>K (.ex 0) ⟨[(11,.sl (some (3,0)) y1.length .op),(12,.i .i64 y0)],[],[(3,⟨true,true,53,5,enc S53.cs y1⟩),(1,tab64)],4⟩:=by
 obtain ⟨D,rfl⟩:=dex hD
 have nlnoise_DrawL3:=lnoise_DrawL3 (D+1) (by omega) F K
 intro f
 induction f with
 |zero=>intro v0 v1 v2 v3 v4 v5 v6 v7 v8 s hs;simp only [evLoop,Pnoise_DrawL4]
 |succ f ih=>
 intro v0 v1 v2 v3 v4 v5 v6 v7 v8 s hs
 obtain ⟨k0,hk,hn,he,hr⟩:=@lk_all (OV F (D+1)) 3 F a16L1 f K
 rw [loop_succ,hk,a16L1,runC_cutg,hs]
 clear hs
 simp only [Pnoise_DrawL4]
 clear hk
 by_cases h1:v5<v4
 rcases ixo (@pk_S40_cs v3 v5) with h2|⟨x1,h2⟩
 rotate_left
 by_cases h3:x1.f_Kind=1
 replace h3:=eq_true h3
 simp -implicitDefEqProofs only [*,-ih,runC_loop,EVA.down,ne_eq,seval]
 rw [lnoise_DrawL1 (D+1) (by omega) F  _ F v0 v1 v2 v5 v3 v4 v5 x1.f_Qubits (x1.f_Qubits.length:Int) 0 v6 v7 v8 _ (by simp only [*,-ih,EVA.down,ne_eq,seval];try rfl)]
 rcases h4:(Pnoise_DrawL1 F v0 v1 v2 v5 v3 v4 v5 x1.f_Qubits (x1.f_Qubits.length:Int) 0 v6 v7 v8) with _|(_|⟨y2,y3,y4,y5,y6,y7,y8,y9,y10⟩|⟨y11,y12,y13,y14,y15,y16,y17,y18,y19,y20⟩)
 all_goals simp -implicitDefEqProofs only [*,-ih,EVA.down,ne_eq,seval]
 all_goals first|exact ih _ _ _ _ _ _ _ _ _ _ (by simp only [*,-ih,EVA.down,ne_eq,seval])|exact nlnoise_DrawL3 f _ _ _ _ _ _ _ _ _ _ _ (by simp only [*,-ih,EVA.down,ne_eq,seval])
theorem enoise_Draw (D:Nat)(hD:6≤D)(F:Nat)(a0_Qubits a0_Bits:Int)(a0_Ops:List S40)(a1:BitVec 64)(a2:List (BitVec 64))(q:Bool):evW 3 (OV F D) F a16 (some [.agg [.i .i64 a0_Qubits,.i .i64 a0_Bits,.vs a0_Ops.length .unk (enc S40.cs a0_Ops)],.f .f64 (a1).toNat,.vs a2.length .unk (enc c43 a2)]) q G0 =
 match Pnoise_Draw F a0_Qubits a0_Bits a0_Ops a1 a2 with|none=>none|some (r0,r1,r2)=>some (.tup [.vs r0.length .unk (enc S53.cs r0),.i .i64 r1,.i .i64 r2],none):=by
 obtain ⟨D,rfl⟩:=dex hD
 have flf_0:AV.f .f64 0=.f .f64 (0#64).toNat:=id rfl
 have flx_0:∀ x,AV.c .f64 x 0=.c .f64 x (0#64).toNat:=fun _=>id rfl
 have fly_0:∀ x,AV.c .f64 0 x=.c .f64 (0#64).toNat x:=fun _=>id rfl
 have flf_4607182418800017408:AV.f .f64 4607182418800017408=.f .f64 (4607182418800017408#64).toNat:=id rfl
 have flx_4607182418800017408:∀ x,AV.c .f64 x 4607182418800017408=.c .f64 x (4607182418800017408#64).toNat:=fun _=>id rfl
 have fly_4607182418800017408:∀ x,AV.c .f64 4607182418800017408 x=.c .f64 (4607182418800017408#64).toNat x:=fun _=>id rfl
 have ccircuit_Check0:=ecircuit_Check (D+5) (by omega) F
 rw [evW_some,G0]
 simp only [Pnoise_Draw]
 rcases h1:(Pcircuit_Check F a0_Qubits a0_Bits a0_Ops) with _|⟨r1,r2⟩
 rotate_left
 by_cases h2:r2=0
 replace h2:=eq_true h2
 rcases h3:(fCmp .geq a1 0#64) with _|_
 rotate_left
 rcases h4:(fCmp .leq a1 4607182418800017408#64) with _|_
 rotate_left
 simp -implicitDefEqProofs only [*,a16,flf_0,flx_0,fly_0,flf_4607182418800017408,flx_4607182418800017408,fly_4607182418800017408,vcircuit_Check,runC_loop,EVA.down,ne_eq,seval]
 rw [lnoise_DrawL4 (D+6) (by omega) F  _ F a1 a2 0 a0_Ops (a0_Ops.length:Int) 0 a0_Qubits a0_Bits a0_Ops _ (by simp only [*,a16,flf_0,flx_0,fly_0,flf_4607182418800017408,flx_4607182418800017408,fly_4607182418800017408,vcircuit_Check,EVA.down,ne_eq,seval];try rfl)]
 rcases h5:(Pnoise_DrawL4 F F a1 a2 0 a0_Ops (a0_Ops.length:Int) 0 a0_Qubits a0_Bits a0_Ops) with _|(_|y3|⟨y4,y5⟩)
 all_goals simp -implicitDefEqProofs only [*,a16,flf_0,flx_0,fly_0,flf_4607182418800017408,flx_4607182418800017408,fly_4607182418800017408,vcircuit_Check,EVA.down,ne_eq,seval]
theorem vnoise_Draw {D F n:Nat}{args:List AV}{h:AHeap}:OV F (D+1) 16 args h n (n+1)=evW 3 (OV F D) F a16 (frzs (frz true 0 (bif AV.nors args then [] else h) 8) args) (AV.nors args) (hglb h 3):=evV_frozen rfl
theorem eref06_Is (D:Nat)(hD:0≤D)(F:Nat)(a0:Int)(q:Bool):evW 3 (OV F D) F a99 (some [.i .i64 a0]) q G0 =
 some (.b ((Pref06_Is a0)),none):=by
 rw [evW_some,G0]
 simp only [Pref06_Is]
 by_cases h1:a0≥1
 all_goals simp -implicitDefEqProofs only [*,a99,EVA.down,ne_eq,seval]
theorem vref06_Is {D F n:Nat}{args:List AV}{h:AHeap}:OV F (D+1) 99 args h n (n+1)=evW 3 (OV F D) F a99 (frzs (frz true 0 (bif AV.nors args then [] else h) 8) args) (AV.nors args) (hglb h 3):=evV_frozen rfl
theorem eref06_Arity (D:Nat)(hD:1≤D)(F:Nat)(a0:Int)(q:Bool):evW 3 (OV F D) F a100 (some [.i .i64 a0]) q G0 =
 some (.i .i64 ((Pref06_Arity a0)),none):=by
 obtain ⟨D,rfl⟩:=dex hD
 have cref06_Is0:=eref06_Is (D) (by omega) F
 rw [evW_some,G0]
 simp only [Pref06_Arity]
 rcases h1:((Pref06_Is a0)) with _|_
 rotate_left
 by_cases h2:a0≤10
 rotate_left
 by_cases h3:a0≤17
 all_goals simp -implicitDefEqProofs only [*,a100,vref06_Is,EVA.down,ne_eq,seval]
theorem vref06_Arity {D F n:Nat}{args:List AV}{h:AHeap}:OV F (D+1) 100 args h n (n+1)=evW 3 (OV F D) F a100 (frzs (frz true 0 (bif AV.nors args then [] else h) 8) args) (AV.nors args) (hglb h 3):=evV_frozen rfl
theorem lref06_CheckL0 (D:Nat)(hD:0≤D)(F:Nat)(v0:List Int)(v1 v2:Int)(K:AE→AS→Option Res):∀ (f:Nat) (v3:Int) (s:AS),s.keep [1,2,7,8] []=some ⟨[(1,.vs v0.length .unk (enc c3 v0)),(2,.i .i64 v1),(7,.i .i64 v2),(8,.i .i64 v3)],[],[(1,tab64)],3⟩→
 evLoop (evC (OV F D) 3 F a89L0) f s K=match Pref06_CheckL0 v0 v1 v2 f v3 with|none=>none|some (.inl _)=>K .ret ⟨[(6,.i .i64 (61))],[],[(1,tab64)],3⟩|some (.inr _)=>K (.ex 2) ⟨[(1,.vs v0.length .unk (enc c3 v0)),(2,.i .i64 v1),(7,.i .i64 v2)],[],[(1,tab64)],3⟩:=by
 intro f
 induction f with
 |zero=>intro v3 s hs;simp only [evLoop,Pref06_CheckL0]
 |succ f ih=>
 intro v3 s hs
 obtain ⟨k0,hk,hn,he,hr⟩:=@lk_all (OV F (D)) 3 F a89L0 f K
 rw [loop_succ,hk,a89L0,runC_cut,hs]
 clear hs
 simp only [Pref06_CheckL0]
 clear hk
 by_cases h1:v3<v2
 rcases ixo (@pk_c3 v0 v2) with h2|⟨x1,h2⟩
 rotate_left
 rcases ixo (@pk_c3 v0 v3) with h3|⟨x2,h3⟩
 rotate_left
 by_cases h4:x1=x2
 replace h4:=eq_true h4
 all_goals simp -implicitDefEqProofs only [*,-ih,EVA.down,ne_eq,seval]
 all_goals exact ih _ _ (by simp only [*,-ih,EVA.down,ne_eq,seval])
theorem lref06_CheckL1 (D:Nat)(hD:0≤D)(F:Nat)(v0:List Int)(v1:Int)(K:AE→AS→Option Res):∀ (f:Nat) (v2:Int) (s:AS),s.keep [1,2,7] []=some ⟨[(1,.vs v0.length .unk (enc c3 v0)),(2,.i .i64 v1),(7,.i .i64 v2)],[],[(1,tab64)],3⟩→
 evLoop (evC (OV F D) 3 F a89L1) f s K=match Pref06_CheckL1 F v0 v1 f v2 with|none=>none|some (.inl _)=>K .ret ⟨[(6,.i .i64 (61))],[],[(1,tab64)],3⟩|some (.inr _)=>K (.ex 0) ⟨[],[],[(1,tab64)],3⟩:=by
 intro f
 induction f with
 |zero=>intro v2 s hs;simp only [evLoop,Pref06_CheckL1]
 |succ f ih=>
 intro v2 s hs
 obtain ⟨k0,hk,hn,he,hr⟩:=@lk_all (OV F (D)) 3 F a89L1 f K
 rw [loop_succ,hk,a89L1,runC_cut,hs]
 clear hs
 simp only [Pref06_CheckL1]
 clear hk
 by_cases h1:v2<(v0.length:Int)
 rcases ixo (@pk_c3 v0 v2) with h2|⟨x1,h2⟩
 rotate_left
 by_cases h3:x1<0
 rotate_left
 by_cases h4:x1≥v1
 rotate_left
 simp -implicitDefEqProofs only [*,-ih,runC_loop,EVA.down,ne_eq,seval]
 rw [lref06_CheckL0 (D) (by omega) F v0 v1 v2 _ F 0 _ (by simp only [*,-ih,EVA.down,ne_eq,seval];try rfl)]
 rcases h5:(Pref06_CheckL0 v0 v1 v2 F 0) with _|(_|_)
 all_goals simp -implicitDefEqProofs only [*,-ih,EVA.down,ne_eq,seval]
 all_goals exact ih _ _ (by simp only [*,-ih,EVA.down,ne_eq,seval])
theorem eref06_Check (D:Nat)(hD:2≤D)(F:Nat)(a0:Int)(a1:List Int)(a2:Int)(q:Bool):evW 3 (OV F D) F a89 (some [.i .i64 a0,.vs a1.length .unk (enc c3 a1),.i .i64 a2]) q G0 =
 match Pref06_Check F a0 a1 a2 with|none=>none|some r0=>some (.i .i64 r0,none):=by
 obtain ⟨D,rfl⟩:=dex hD
 have cref06_Is0:=eref06_Is (D+1) (by omega) F
 have cref06_Arity0:=eref06_Arity (D+1) (by omega) F
 rw [evW_some,G0]
 simp only [Pref06_Check]
 rcases h1:((Pref06_Is a0)) with _|_
 rotate_left
 by_cases h2:(a1.length:Int)=(Pref06_Arity a0)
 replace h2:=eq_true h2
 simp -implicitDefEqProofs only [*,a89,vref06_Is,vref06_Arity,runC_loop,EVA.down,ne_eq,seval]
 rw [lref06_CheckL1 (D+2) (by omega) F a1 a2 _ F 0 _ (by simp only [*,a89,vref06_Is,vref06_Arity,EVA.down,ne_eq,seval];try rfl)]
 rcases h3:(Pref06_CheckL1 F a1 a2 F 0) with _|(_|_)
 all_goals simp -implicitDefEqProofs only [*,a89,vref06_Is,vref06_Arity,EVA.down,ne_eq,seval]
theorem vref06_Check {D F n:Nat}{args:List AV}{h:AHeap}:OV F (D+1) 89 args h n (n+1)=evW 3 (OV F D) F a89 (frzs (frz true 0 (bif AV.nors args then [] else h) 8) args) (AV.nors args) (hglb h 3):=evV_frozen rfl
theorem lref08_unlikeL0 (D:Nat)(hD:0≤D)(F:Nat)(v0:List Int)(v1 v2:Int)(K:AE→AS→Option Res):∀ (f:Nat) (v3:Int) (s:AS),s.keep [0,1,5,6] []=some ⟨[(0,.vs v0.length .unk (enc c3 v0)),(1,.i .i64 v1),(5,.i .i64 v2),(6,.i .i64 v3)],[],[(1,tab64)],3⟩→
 evLoop (evC (OV F D) 3 F a93L0) f s K=match Pref08_unlikeL0 v0 v1 v2 f v3 with|none=>none|some (.inl _)=>K .ret ⟨[(4,.b false)],[],[(1,tab64)],3⟩|some (.inr _)=>K (.ex 2) ⟨[(0,.vs v0.length .unk (enc c3 v0)),(1,.i .i64 v1),(5,.i .i64 v2)],[],[(1,tab64)],3⟩:=by
 intro f
 induction f with
 |zero=>intro v3 s hs;simp only [evLoop,Pref08_unlikeL0]
 |succ f ih=>
 intro v3 s hs
 obtain ⟨k0,hk,hn,he,hr⟩:=@lk_all (OV F (D)) 3 F a93L0 f K
 rw [loop_succ,hk,a93L0,runC_cut,hs]
 clear hs
 simp only [Pref08_unlikeL0]
 clear hk
 by_cases h1:v3<v2
 rcases ixo (@pk_c3 v0 v3) with h2|⟨x1,h2⟩
 rotate_left
 rcases ixo (@pk_c3 v0 v2) with h3|⟨x2,h3⟩
 rotate_left
 by_cases h4:x1=x2
 replace h4:=eq_true h4
 all_goals simp -implicitDefEqProofs only [*,-ih,EVA.down,ne_eq,seval]
 all_goals exact ih _ _ (by simp only [*,-ih,EVA.down,ne_eq,seval])
theorem lref08_unlikeL1 (D:Nat)(hD:0≤D)(F:Nat)(v0:List Int)(v1:Int)(K:AE→AS→Option Res):∀ (f:Nat) (v2:Int) (s:AS),s.keep [0,1,5] []=some ⟨[(0,.vs v0.length .unk (enc c3 v0)),(1,.i .i64 v1),(5,.i .i64 v2)],[],[(1,tab64)],3⟩→
 evLoop (evC (OV F D) 3 F a93L1) f s K=match Pref08_unlikeL1 F v0 v1 f v2 with|none=>none|some (.inl _)=>K .ret ⟨[(4,.b false)],[],[(1,tab64)],3⟩|some (.inr _)=>K (.ex 0) ⟨[],[],[(1,tab64)],3⟩:=by
 intro f
 induction f with
 |zero=>intro v2 s hs;simp only [evLoop,Pref08_unlikeL1]
 |succ f ih=>
 intro v2 s hs
 obtain ⟨k0,hk,hn,he,hr⟩:=@lk_all (OV F (D)) 3 F a93L1 f K
 rw [loop_succ,hk,a93L1,runC_cut,hs]
 clear hs
 simp only [Pref08_unlikeL1]
 clear hk
 by_cases h1:v2<(v0.length:Int)
 rcases ixo (@pk_c3 v0 v2) with h2|⟨x1,h2⟩
 rotate_left
 by_cases h3:x1<0
 rotate_left
 by_cases h4:x1≥v1
 rotate_left
 simp -implicitDefEqProofs only [*,-ih,runC_loop,EVA.down,ne_eq,seval]
 rw [lref08_unlikeL0 (D) (by omega) F v0 v1 v2 _ F 0 _ (by simp only [*,-ih,EVA.down,ne_eq,seval];try rfl)]
 rcases h5:(Pref08_unlikeL0 v0 v1 v2 F 0) with _|(_|_)
 all_goals simp -implicitDefEqProofs only [*,-ih,EVA.down,ne_eq,seval]
 all_goals exact ih _ _ (by simp only [*,-ih,EVA.down,ne_eq,seval])
theorem eref08_unlike (D:Nat)(hD:0≤D)(F:Nat)(a0:List Int)(a1:Int)(q:Bool):evW 3 (OV F D) F a93 (some [.vs a0.length .unk (enc c3 a0),.i .i64 a1]) q G0 =
 match Pref08_unlike F a0 a1 with|none=>none|some r0=>some (.b r0,none):=by
 rw [evW_some,G0]
 simp only [Pref08_unlike]
 simp -implicitDefEqProofs only [*,a93,runC_loop,EVA.down,ne_eq,seval]
 rw [lref08_unlikeL1 (D) (by omega) F a0 a1 _ F 0 _ (by simp only [*,a93,EVA.down,ne_eq,seval];try rfl)]
 rcases h1:(Pref08_unlikeL1 F a0 a1 F 0) with _|(_|_)
 all_goals simp -implicitDefEqProofs only [*,a93,EVA.down,ne_eq,seval]
theorem vref08_unlike {D F n:Nat}{args:List AV}{h:AHeap}:OV F (D+1) 93 args h n (n+1)=evW 3 (OV F D) F a93 (frzs (frz true 0 (bif AV.nors args then [] else h) 8) args) (AV.nors args) (hglb h 3):=evV_frozen rfl
theorem eref08_Op (D:Nat)(hD:3≤D)(F:Nat)(a0_Kind a0_Gate:Int)(a0_Qubits:List Int)(a0_Bit a0_If a0_When a1 a2:Int)(q:Bool):evW 3 (OV F D) F a72 (some [.agg [.i .i64 a0_Kind,.i .i64 a0_Gate,.vs a0_Qubits.length .unk (enc c3 a0_Qubits),.i .i64 a0_Bit,.i .i64 a0_If,.i .i64 a0_When],.i .i64 a1,.i .i64 a2]) q G0 =
 match Pref08_Op F a0_Kind a0_Gate a0_Qubits a0_Bit a0_If a0_When a1 a2 with|none=>none|some r0=>some (.b r0,none):=by
 obtain ⟨D,rfl⟩:=dex hD
 have cref06_Check0:=eref06_Check (D+2) (by omega) F
 have cref08_unlike0:=eref08_unlike (D+2) (by omega) F
 rw [evW_some,G0]
 simp only [Pref08_Op]
 by_cases h1:a0_If=(((-1):Int))
 replace h1:=eq_true h1
 by_cases h2:a0_Kind=1
 replace h2:=eq_true h2
 rcases h3:(Pref06_Check F a0_Gate a0_Qubits a1) with _|r1
 rotate_left
 by_cases h4:r1=0
 replace h4:=eq_true h4
 by_cases h5:a0_Bit=0
 replace h5:=eq_true h5
 by_cases h6:a0_When=0
 replace h6:=eq_true h6
 rotate_left
 by_cases h7:a0_If≥0
 by_cases h8:a0_If<a2
 rotate_left
 rotate_left
 rotate_left
 rotate_left
 rotate_left
 by_cases h9:a0_Kind=2
 replace h9:=eq_true h9
 by_cases h10:a0_Gate=0
 replace h10:=eq_true h10
 by_cases h11:(a0_Qubits.length:Int)=1
 replace h11:=eq_true h11
 rcases h12:(Pref08_unlike F a0_Qubits a1) with _|r2
 rotate_left
 rcases h13:(r2) with _|_
 rotate_left
 by_cases h14:a0_Bit≥0
 by_cases h15:a0_Bit<a2
 rotate_left
 rotate_left
 rotate_left
 rotate_left
 rotate_left
 by_cases h16:a0_Kind=3
 replace h16:=eq_true h16
 by_cases h17:a0_Gate=0
 replace h17:=eq_true h17
 by_cases h18:(a0_Qubits.length:Int)=1
 replace h18:=eq_true h18
 rcases h19:(Pref08_unlike F a0_Qubits a1) with _|r3
 rotate_left
 rcases h20:(r3) with _|_
 rotate_left
 by_cases h21:a0_Bit=0
 replace h21:=eq_true h21
 rotate_left
 rotate_left
 rotate_left
 rotate_left
 by_cases h22:a0_Kind=4
 replace h22:=eq_true h22
 by_cases h23:a0_Gate=0
 replace h23:=eq_true h23
 by_cases h24:(a0_Qubits.length:Int)>0
 rcases h25:(Pref08_unlike F a0_Qubits a1) with _|r4
 rotate_left
 rcases h26:(r4) with _|_
 rotate_left
 by_cases h27:a0_Bit=0
 replace h27:=eq_true h27
 rotate_left
 rotate_left
 rotate_left
 rotate_left
 rotate_left
 by_cases h28:a0_Kind=1
 replace h28:=eq_true h28
 rcases h29:(Pref06_Check F a0_Gate a0_Qubits a1) with _|r5
 rotate_left
 by_cases h30:r5=0
 replace h30:=eq_true h30
 by_cases h31:a0_Bit=0
 replace h31:=eq_true h31
 by_cases h32:a0_If≥0
 by_cases h33:a0_If<a2
 by_cases h34:a0_When=0
 replace h34:=eq_true h34
 rotate_left
 rotate_left
 rotate_left
 rotate_left
 rotate_left
 rotate_left
 by_cases h35:a0_Kind=2
 replace h35:=eq_true h35
 by_cases h36:a0_Gate=0
 replace h36:=eq_true h36
 by_cases h37:(a0_Qubits.length:Int)=1
 replace h37:=eq_true h37
 rcases h38:(Pref08_unlike F a0_Qubits a1) with _|r6
 rotate_left
 rcases h39:(r6) with _|_
 rotate_left
 by_cases h40:a0_Bit≥0
 by_cases h41:a0_Bit<a2
 rotate_left
 rotate_left
 rotate_left
 rotate_left
 rotate_left
 by_cases h42:a0_Kind=3
 replace h42:=eq_true h42
 by_cases h43:a0_Gate=0
 replace h43:=eq_true h43
 by_cases h44:(a0_Qubits.length:Int)=1
 replace h44:=eq_true h44
 rcases h45:(Pref08_unlike F a0_Qubits a1) with _|r7
 rotate_left
 rcases h46:(r7) with _|_
 rotate_left
 by_cases h47:a0_Bit=0
 replace h47:=eq_true h47
 rotate_left
 rotate_left
 rotate_left
 rotate_left
 by_cases h48:a0_Kind=4
 replace h48:=eq_true h48
 by_cases h49:a0_Gate=0
 replace h49:=eq_true h49
 by_cases h50:(a0_Qubits.length:Int)>0
 rcases h51:(Pref08_unlike F a0_Qubits a1) with _|r8
 rotate_left
 rcases h52:(r8) with _|_
 rotate_left
 by_cases h53:a0_Bit=0
 replace h53:=eq_true h53
 all_goals simp -implicitDefEqProofs only [*,a72,vref06_Check,vref08_unlike,EVA.down,ne_eq,seval]
theorem vref08_Op {D F n:Nat}{args:List AV}{h:AHeap}:OV F (D+1) 72 args h n (n+1)=evW 3 (OV F D) F a72 (frzs (frz true 0 (bif AV.nors args then [] else h) 8) args) (AV.nors args) (hglb h 3):=evV_frozen rfl
theorem lref08_CheckL0 (D:Nat)(hD:4≤D)(F:Nat)(v1 v2:Int)(v3:List S40)(K:AE→AS→Option Res):∀ (f:Nat) (v0:Int) (s:AS),s.keep [1,4] [1]=some ⟨[(1,.lp 1 0),(4,.i .i64 v0)],[(1,[.i .i64 v1,.i .i64 v2,.vs v3.length .unk (enc S40.cs v3)])],[(1,tab64)],3⟩→
 evLoop (evC (OV F D) 3 F a53L0) f s K=match Pref08_CheckL0 F v1 v2 v3 f v0 with|none=>none|some (.inl y0)=>K .ret ⟨[(2,.i .i64 y0),(3,.i .i64 (80))],[],[(1,tab64)],3⟩|some (.inr _)=>K (.ex 0) ⟨[],[],[(1,tab64)],3⟩:=by
 obtain ⟨D,rfl⟩:=dex hD
 have cref08_Op0:=eref08_Op (D+3) (by omega) F
 intro f
 induction f with
 |zero=>intro v0 s hs;simp only [evLoop,Pref08_CheckL0]
 |succ f ih=>
 intro v0 s hs
 obtain ⟨k0,hk,hn,he,hr⟩:=@lk_all (OV F (D+4)) 3 F a53L0 f K
 rw [loop_succ,hk,a53L0,runC_cut,hs]
 clear hs
 simp only [Pref08_CheckL0]
 clear hk
 by_cases h1:v0<(v3.length:Int)
 rcases ixo (@pk_S40_cs v3 v0) with h2|⟨x1,h2⟩
 rotate_left
 rcases h3:(Pref08_Op F x1.f_Kind x1.f_Gate x1.f_Qubits x1.f_Bit x1.f_If x1.f_When v1 v2) with _|r2
 rotate_left
 rcases h4:(r2) with _|_
 all_goals simp -implicitDefEqProofs only [*,-ih,vref08_Op,EVA.down,ne_eq,seval]
 all_goals exact ih _ _ (by simp only [*,-ih,vref08_Op,EVA.down,ne_eq,seval])
theorem eref08_Check (D:Nat)(hD:4≤D)(F:Nat)(a0_Qubits a0_Bits:Int)(a0_Ops:List S40)(q:Bool):evW 3 (OV F D) F a53 (some [.agg [.i .i64 a0_Qubits,.i .i64 a0_Bits,.vs a0_Ops.length .unk (enc S40.cs a0_Ops)]]) q G0 =
 match Pref08_Check F a0_Qubits a0_Bits a0_Ops with|none=>none|some (r0,r1)=>some (.tup [.i .i64 r0,.i .i64 r1],none):=by
 obtain ⟨D,rfl⟩:=dex hD
 rw [evW_some,G0]
 simp only [Pref08_Check]
 by_cases h1:a0_Qubits<0
 rotate_left
 by_cases h2:a0_Qubits>64
 rotate_left
 by_cases h3:a0_Bits<0
 rotate_left
 by_cases h4:a0_Bits>64
 rotate_left
 by_cases h5:(a0_Ops.length:Int)>4096
 rotate_left
 simp -implicitDefEqProofs only [*,a53,runC_loop,EVA.down,ne_eq,seval]
 rw [lref08_CheckL0 (D+4) (by omega) F a0_Qubits a0_Bits a0_Ops _ F 0 _ (by simp only [*,a53,EVA.down,ne_eq,seval];try rfl)]
 rcases h6:(Pref08_CheckL0 F a0_Qubits a0_Bits a0_Ops F 0) with _|(y1|_)
 all_goals simp -implicitDefEqProofs only [*,a53,EVA.down,ne_eq,seval]
theorem vref08_Check {D F n:Nat}{args:List AV}{h:AHeap}:OV F (D+1) 53 args h n (n+1)=evW 3 (OV F D) F a53 (frzs (frz true 0 (bif AV.nors args then [] else h) 8) args) (AV.nors args) (hglb h 3):=evV_frozen rfl
theorem eref08_May (D:Nat)(hD:5≤D)(F:Nat)(a0_Qubits a0_Bits:Int)(a0_Ops:List S40)(q:Bool):evW 3 (OV F D) F a35 (some [.agg [.i .i64 a0_Qubits,.i .i64 a0_Bits,.vs a0_Ops.length .unk (enc S40.cs a0_Ops)]]) q G0 =
 match Pref08_May F a0_Qubits a0_Bits a0_Ops with|none=>none|some r0=>some (.b r0,none):=by
 obtain ⟨D,rfl⟩:=dex hD
 have cref08_Check0:=eref08_Check (D+4) (by omega) F
 rw [evW_some,G0]
 simp only [Pref08_May]
 rcases h1:(Pref08_Check F a0_Qubits a0_Bits a0_Ops) with _|⟨r1,r2⟩
 all_goals simp -implicitDefEqProofs only [*,a35,vref08_Check,EVA.down,ne_eq,seval]
theorem vref08_May {D F n:Nat}{args:List AV}{h:AHeap}:OV F (D+1) 35 args h n (n+1)=evW 3 (OV F D) F a35 (frzs (frz true 0 (bif AV.nors args then [] else h) 8) args) (AV.nors args) (hglb h 3):=evV_frozen rfl
theorem lref24_DrawL0 (D:Nat)(hD:0≤D)(F:Nat)(K:AE→AS→Option Res):∀ (f:Nat) (v0:BitVec 64) (v1:List (BitVec 64)) (v2 v3 v4 v5 v6:Int) (v7:List S40) (v8 v9:Int) (v10:List Int) (v11 v12 v13:Int) (v14:List S53) (s:AS),s.keepG 3 [1,2,3,9,10,11,12,13] [3,12]=some ⟨[(1,.f .f64 (v0).toNat),(2,.vs v1.length .unk (enc c43 v1)),(3,.lp 3 0),(9,.sl (some (3,0)) v14.length .op),(10,.i .i64 v2),(11,.i .i64 v3),(12,.lp 12 0),(13,.i .i64 v4)],[(3,[.i .i64 v5,.i .i64 v6,.vs v7.length .unk (enc S40.cs v7)]),(12,[.i .i64 v8,.i .i64 v9,.vs v10.length .unk (enc c3 v10),.i .i64 v11,.i .i64 v12,.i .i64 v13])],[(3,⟨true,true,53,5,enc S53.cs v14⟩),(1,tab64)],4⟩→
 evLoop (evC (OV F D) 3 F a17L0) f s K=match Pref24_DrawL0 f v0 v1 v2 v3 v4 v5 v6 v7 v8 v9 v10 v11 v12 v13 v14 with|none=>none|some (.inl _)=>K .ret ⟨[(6,.sl none 0 (.ex 0)),(7,.i .i64 (0)),(8,.i .i64 (240))],[],[(1,tab64)],3⟩|some (.inr (.inl (y0,y1,y2,y3,y4,y5,y6)))=>K (.ex 2) ⟨[(1,.f .f64 (y0).toNat),(2,.vs y1.length .unk (enc c43 y1)),(3,.lp 3 0),(9,.sl none 0 (.ex 0)),(10,.i .i64 y2),(11,.i .i64 y3)],[(3,[.i .i64 y4,.i .i64 y5,.vs y6.length .unk (enc S40.cs y6)])],[(1,tab64)],3⟩|some (.inr (.inr (y0,y1,y2,y3,y4,y5,y6,y7)))=>K (.ex 2) ⟨[(1,.f .f64 (y0).toNat),(2,.vs y1.length .unk (enc c43 y1)),(3,.lp 3 0),(9,.sl (some (3,0)) y7.length .op),(10,.i .i64 y2),(11,.i .i64 y3)],[(3,[.i .i64 y4,.i .i64 y5,.vs y6.length .unk (enc S40.cs y6)])],[(3,⟨true,true,53,5,enc S53.cs y7⟩),(1,tab64)],4⟩:=by
 have flf_0:AV.f .f64 0=.f .f64 (0#64).toNat:=id rfl
 have flx_0:∀ x,AV.c .f64 x 0=.c .f64 x (0#64).toNat:=fun _=>id rfl
 have fly_0:∀ x,AV.c .f64 0 x=.c .f64 (0#64).toNat x:=fun _=>id rfl
 have flf_4607182418800017408:AV.f .f64 4607182418800017408=.f .f64 (4607182418800017408#64).toNat:=id rfl
 have flx_4607182418800017408:∀ x,AV.c .f64 x 4607182418800017408=.c .f64 x (4607182418800017408#64).toNat:=fun _=>id rfl
 have fly_4607182418800017408:∀ x,AV.c .f64 4607182418800017408 x=.c .f64 (4607182418800017408#64).toNat x:=fun _=>id rfl
 have flf_4611686018427387904:AV.f .f64 4611686018427387904=.f .f64 (4611686018427387904#64).toNat:=id rfl
 have flx_4611686018427387904:∀ x,AV.c .f64 x 4611686018427387904=.c .f64 x (4611686018427387904#64).toNat:=fun _=>id rfl
 have fly_4611686018427387904:∀ x,AV.c .f64 4611686018427387904 x=.c .f64 (4611686018427387904#64).toNat x:=fun _=>id rfl
 have flf_4613937818241073152:AV.f .f64 4613937818241073152=.f .f64 (4613937818241073152#64).toNat:=id rfl
 have flx_4613937818241073152:∀ x,AV.c .f64 x 4613937818241073152=.c .f64 x (4613937818241073152#64).toNat:=fun _=>id rfl
 have fly_4613937818241073152:∀ x,AV.c .f64 4613937818241073152 x=.c .f64 (4613937818241073152#64).toNat x:=fun _=>id rfl
 intro f
 induction f with
 |zero=>intro v0 v1 v2 v3 v4 v5 v6 v7 v8 v9 v10 v11 v12 v13 v14 s hs;simp only [evLoop,Pref24_DrawL0]
 |succ f ih=>
 intro v0 v1 v2 v3 v4 v5 v6 v7 v8 v9 v10 v11 v12 v13 v14 s hs
 obtain ⟨k0,hk,hn,he,hr⟩:=@lk_all (OV F (D)) 3 F a17L0 f K
 rw [loop_succ,hk,a17L0,runC_cutg,hs]
 clear hs
 simp only [Pref24_DrawL0]
 clear hk
 by_cases h1:v4<(v10.length:Int)
 by_cases h2:v8=1
 replace h2:=eq_true h2
 by_cases h3:v2≥(v1.length:Int)
 rotate_left
 rcases ixo (@pk_c43 v1 v2) with h4|⟨x1,h4⟩
 rotate_left
 rcases h5:(fCmp .geq x1 0#64) with _|_
 rotate_left
 rcases h6:(fCmp .lss x1 4607182418800017408#64) with _|_
 rotate_left
 rcases h7:(fCmp .geq x1 v0) with _|_
 rcases ixo (@pk_c3 v10 v4) with h8|⟨x2,h8⟩
 rotate_left
 rcases h9:(fCmp .lss (fMul x1 4613937818241073152#64) v0) with _|_
 rcases h10:(fCmp .geq (fQuo (fMul x1 4613937818241073152#64) 4611686018427387904#64) v0) with _|_
 rcases h11:(fCmp .geq (fMul x1 4613937818241073152#64) v0) with _|_
 by_cases h12:(v14.length+1)*40≤140737488355328
 rotate_left
 rotate_left
 by_cases h13:(v14.length+1)*40≤140737488355328
 rotate_left
 rotate_left
 rcases h14:(fCmp .geq (fMul x1 4613937818241073152#64) v0) with _|_
 by_cases h15:(v14.length+1)*40≤140737488355328
 rotate_left
 rotate_left
 by_cases h16:(v14.length+1)*40≤140737488355328
 rotate_left
 rotate_left
 rcases h17:(fCmp .geq (fMul x1 4613937818241073152#64) v0) with _|_
 by_cases h18:(v14.length+1)*40≤140737488355328
 rotate_left
 rotate_left
 by_cases h19:(v14.length+1)*40≤140737488355328
 all_goals simp -implicitDefEqProofs (maxSteps:=4000000) only [*,-ih,flf_0,flx_0,fly_0,flf_4607182418800017408,flx_4607182418800017408,fly_4607182418800017408,flf_4611686018427387904,flx_4611686018427387904,fly_4611686018427387904,flf_4613937818241073152,flx_4613937818241073152,fly_4613937818241073152,EVA.down,ne_eq,seval]
 all_goals exact ih _ _ _ _ _ _ _ _ _ _ _ _ _ _ _ _ (by simp only [*,-ih,flf_0,flx_0,fly_0,flf_4607182418800017408,flx_4607182418800017408,fly_4607182418800017408,flf_4611686018427387904,flx_4611686018427387904,fly_4611686018427387904,flf_4613937818241073152,flx_4613937818241073152,fly_4613937818241073152,EVA.down,ne_eq,seval])
theorem lref24_DrawL1 (D:Nat)(hD:0≤D)(F:Nat)(K:AE→AS→Option Res):∀ (f:Nat) (v0:BitVec 64) (v1:List (BitVec 64)) (v2 v3 v4 v5 v6:Int) (v7:List S40) (v8 v9:Int) (v10:List Int) (v11 v12 v13:Int) (s:AS),s.keepG 3 [1,2,3,9,10,11,12,13] [3,12]=some ⟨[(1,.f .f64 (v0).toNat),(2,.vs v1.length .unk (enc c43 v1)),(3,.lp 3 0),(9,.sl none 0 (.ex 0)),(10,.i .i64 v2),(11,.i .i64 v3),(12,.lp 12 0),(13,.i .i64 v4)],[(3,[.i .i64 v5,.i .i64 v6,.vs v7.length .unk (enc S40.cs v7)]),(12,[.i .i64 v8,.i .i64 v9,.vs v10.length .unk (enc c3 v10),.i .i64 v11,.i .i64 v12,.i .i64 v13])],[(1,tab64)],3⟩→
 evLoop (evC (OV F D) 3 F a17L0) f s K=match Pref24_DrawL1 f v0 v1 v2 v3 v4 v5 v6 v7 v8 v9 v10 v11 v12 v13 with|none=>none|some (.inl _)=>K .ret ⟨[(6,.sl none 0 (.ex 0)),(7,.i .i64 (0)),(8,.i .i64 (240))],[],[(1,tab64)],3⟩|some (.inr (.inl (y0,y1,y2,y3,y4,y5,y6)))=>K (.ex 2) ⟨[(1,.f .f64 (y0).toNat),(2,.vs y1.length .unk (enc c43 y1)),(3,.lp 3 0),(9,.sl none 0 (.ex 0)),(10,.i .i64 y2),(11,.i .i64 y3)],[(3,[.i .i64 y4,.i .i64 y5,.vs y6.length .unk (enc S40.cs y6)])],[(1,tab64)],3⟩|some (.inr (.inr (y0,y1,y2,y3,y4,y5,y6,y7)))=>K (.ex 2) ⟨[(1,.f .f64 (y0).toNat),(2,.vs y1.length .unk (enc c43 y1)),(3,.lp 3 0),(9,.sl (some (3,0)) y7.length .op),(10,.i .i64 y2),(11,.i .i64 y3)],[(3,[.i .i64 y4,.i .i64 y5,.vs y6.length .unk (enc S40.cs y6)])],[(3,⟨true,true,53,5,enc S53.cs y7⟩),(1,tab64)],4⟩:=by
 have flf_0:AV.f .f64 0=.f .f64 (0#64).toNat:=id rfl
 have flx_0:∀ x,AV.c .f64 x 0=.c .f64 x (0#64).toNat:=fun _=>id rfl
 have fly_0:∀ x,AV.c .f64 0 x=.c .f64 (0#64).toNat x:=fun _=>id rfl
 have flf_4607182418800017408:AV.f .f64 4607182418800017408=.f .f64 (4607182418800017408#64).toNat:=id rfl
 have flx_4607182418800017408:∀ x,AV.c .f64 x 4607182418800017408=.c .f64 x (4607182418800017408#64).toNat:=fun _=>id rfl
 have fly_4607182418800017408:∀ x,AV.c .f64 4607182418800017408 x=.c .f64 (4607182418800017408#64).toNat x:=fun _=>id rfl
 have flf_4611686018427387904:AV.f .f64 4611686018427387904=.f .f64 (4611686018427387904#64).toNat:=id rfl
 have flx_4611686018427387904:∀ x,AV.c .f64 x 4611686018427387904=.c .f64 x (4611686018427387904#64).toNat:=fun _=>id rfl
 have fly_4611686018427387904:∀ x,AV.c .f64 4611686018427387904 x=.c .f64 (4611686018427387904#64).toNat x:=fun _=>id rfl
 have flf_4613937818241073152:AV.f .f64 4613937818241073152=.f .f64 (4613937818241073152#64).toNat:=id rfl
 have flx_4613937818241073152:∀ x,AV.c .f64 x 4613937818241073152=.c .f64 x (4613937818241073152#64).toNat:=fun _=>id rfl
 have fly_4613937818241073152:∀ x,AV.c .f64 4613937818241073152 x=.c .f64 (4613937818241073152#64).toNat x:=fun _=>id rfl
 have nlref24_DrawL0:=lref24_DrawL0 (D) (by omega) F K
 intro f
 induction f with
 |zero=>intro v0 v1 v2 v3 v4 v5 v6 v7 v8 v9 v10 v11 v12 v13 s hs;simp only [evLoop,Pref24_DrawL1]
 |succ f ih=>
 intro v0 v1 v2 v3 v4 v5 v6 v7 v8 v9 v10 v11 v12 v13 s hs
 obtain ⟨k0,hk,hn,he,hr⟩:=@lk_all (OV F (D)) 3 F a17L0 f K
 rw [loop_succ,hk,a17L0,runC_cutg,hs]
 clear hs
 simp only [Pref24_DrawL1]
 clear hk
 by_cases h1:v4<(v10.length:Int)
 by_cases h2:v8=1
 replace h2:=eq_true h2
 by_cases h3:v2≥(v1.length:Int)
 rotate_left
 rcases ixo (@pk_c43 v1 v2) with h4|⟨x1,h4⟩
 rotate_left
 rcases h5:(fCmp .geq x1 0#64) with _|_
 rotate_left
 rcases h6:(fCmp .lss x1 4607182418800017408#64) with _|_
 rotate_left
 rcases h7:(fCmp .geq x1 v0) with _|_
 rcases ixo (@pk_c3 v10 v4) with h8|⟨x2,h8⟩
 rotate_left
 rcases h9:(fCmp .lss (fMul x1 4613937818241073152#64) v0) with _|_
 rcases h10:(fCmp .geq (fQuo (fMul x1 4613937818241073152#64) 4611686018427387904#64) v0) with _|_
 rcases h11:(fCmp .geq (fMul x1 4613937818241073152#64) v0) with _|_
 rotate_left
 rotate_left
 rcases h12:(fCmp .geq (fMul x1 4613937818241073152#64) v0) with _|_
 rotate_left
 rotate_left
 rcases h13:(fCmp .geq (fMul x1 4613937818241073152#64) v0) with _|_
 all_goals simp -implicitDefEqProofs (maxSteps:=4000000) only [*,-ih,flf_0,flx_0,fly_0,flf_4607182418800017408,flx_4607182418800017408,fly_4607182418800017408,flf_4611686018427387904,flx_4611686018427387904,fly_4611686018427387904,flf_4613937818241073152,flx_4613937818241073152,fly_4613937818241073152,EVA.down,ne_eq,seval]
 all_goals first|exact ih _ _ _ _ _ _ _ _ _ _ _ _ _ _ _ (by simp only [*,-ih,flf_0,flx_0,fly_0,flf_4607182418800017408,flx_4607182418800017408,fly_4607182418800017408,flf_4611686018427387904,flx_4611686018427387904,fly_4611686018427387904,flf_4613937818241073152,flx_4613937818241073152,fly_4613937818241073152,EVA.down,ne_eq,seval])|exact nlref24_DrawL0 f _ _ _ _ _ _ _ _ _ _ _ _ _ _ _ _ (by simp only [*,-ih,flf_0,flx_0,fly_0,flf_4607182418800017408,flx_4607182418800017408,fly_4607182418800017408,flf_4611686018427387904,flx_4611686018427387904,fly_4611686018427387904,flf_4613937818241073152,flx_4613937818241073152,fly_4613937818241073152,EVA.down,ne_eq,seval])
theorem lref24_DrawL2 (D:Nat)(hD:0≤D)(F:Nat)(v0:BitVec 64)(v1:List (BitVec 64))(v3 v5 v6:Int)(v7:List S40)(v8 v9:Int)(v10:List Int)(v11 v12 v13:Int)(K:AE→AS→Option Res):∀ (f:Nat) (v2 v4:Int) (v14:List S53) (s:AS),s.keepG 3 [1,2,3,9,10,11,12,13] [3,12]=some ⟨[(1,.f .f64 (v0).toNat),(2,.vs v1.length .unk (enc c43 v1)),(3,.lp 3 0),(9,.sl (some (3,0)) v14.length .op),(10,.i .i64 v2),(11,.i .i64 v3),(12,.lp 12 0),(13,.i .i64 v4)],[(3,[.i .i64 v5,.i .i64 v6,.vs v7.length .unk (enc S40.cs v7)]),(12,[.i .i64 v8,.i .i64 v9,.vs v10.length .unk (enc c3 v10),.i .i64 v11,.i .i64 v12,.i .i64 v13])],[(3,⟨true,true,53,5,enc S53.cs v14⟩),(1,tab64)],4⟩→
 evLoop (evC (OV F D) 3 F a17L0) f s K=match Pref24_DrawL2 v0 v1 v3 v5 v6 v7 v8 v9 v10 v11 v12 v13 f v2 v4 v14 with|none=>none|some (.inl _)=>K .ret ⟨[(6,.sl none 0 (.ex 0)),(7,.i .i64 (0)),(8,.i .i64 (240))],[],[(1,tab64)],3⟩|some (.inr (y0,y1))=>K (.ex 2) ⟨[(1,.f .f64 (v0).toNat),(2,.vs v1.length .unk (enc c43 v1)),(3,.lp 3 0),(9,.sl (some (3,0)) y1.length .op),(10,.i .i64 y0),(11,.i .i64 v3)],[(3,[.i .i64 v5,.i .i64 v6,.vs v7.length .unk (enc S40.cs v7)])],[(3,⟨true,true,53,5,enc S53.cs y1⟩),(1,tab64)],4⟩:=by
 have flf_0:AV.f .f64 0=.f .f64 (0#64).toNat:=id rfl
 have flx_0:∀ x,AV.c .f64 x 0=.c .f64 x (0#64).toNat:=fun _=>id rfl
 have fly_0:∀ x,AV.c .f64 0 x=.c .f64 (0#64).toNat x:=fun _=>id rfl
 have flf_4607182418800017408:AV.f .f64 4607182418800017408=.f .f64 (4607182418800017408#64).toNat:=id rfl
 have flx_4607182418800017408:∀ x,AV.c .f64 x 4607182418800017408=.c .f64 x (4607182418800017408#64).toNat:=fun _=>id rfl
 have fly_4607182418800017408:∀ x,AV.c .f64 4607182418800017408 x=.c .f64 (4607182418800017408#64).toNat x:=fun _=>id rfl
 have flf_4611686018427387904:AV.f .f64 4611686018427387904=.f .f64 (4611686018427387904#64).toNat:=id rfl
 have flx_4611686018427387904:∀ x,AV.c .f64 x 4611686018427387904=.c .f64 x (4611686018427387904#64).toNat:=fun _=>id rfl
 have fly_4611686018427387904:∀ x,AV.c .f64 4611686018427387904 x=.c .f64 (4611686018427387904#64).toNat x:=fun _=>id rfl
 have flf_4613937818241073152:AV.f .f64 4613937818241073152=.f .f64 (4613937818241073152#64).toNat:=id rfl
 have flx_4613937818241073152:∀ x,AV.c .f64 x 4613937818241073152=.c .f64 x (4613937818241073152#64).toNat:=fun _=>id rfl
 have fly_4613937818241073152:∀ x,AV.c .f64 4613937818241073152 x=.c .f64 (4613937818241073152#64).toNat x:=fun _=>id rfl
 intro f
 induction f with
 |zero=>intro v2 v4 v14 s hs;simp only [evLoop,Pref24_DrawL2]
 |succ f ih=>
 intro v2 v4 v14 s hs
 obtain ⟨k0,hk,hn,he,hr⟩:=@lk_all (OV F (D)) 3 F a17L0 f K
 rw [loop_succ,hk,a17L0,runC_cutg,hs]
 clear hs
 simp only [Pref24_DrawL2]
 clear hk
 by_cases h1:v4<(v10.length:Int)
 by_cases h2:v8=1
 replace h2:=eq_true h2
 by_cases h3:v2≥(v1.length:Int)
 rotate_left
 rcases ixo (@pk_c43 v1 v2) with h4|⟨x1,h4⟩
 rotate_left
 rcases h5:(fCmp .geq x1 0#64) with _|_
 rotate_left
 rcases h6:(fCmp .lss x1 4607182418800017408#64) with _|_
 rotate_left
 rcases h7:(fCmp .geq x1 v0) with _|_
 rcases ixo (@pk_c3 v10 v4) with h8|⟨x2,h8⟩
 rotate_left
 rcases h9:(fCmp .lss (fMul x1 4613937818241073152#64) v0) with _|_
 rcases h10:(fCmp .geq (fQuo (fMul x1 4613937818241073152#64) 4611686018427387904#64) v0) with _|_
 rcases h11:(fCmp .geq (fMul x1 4613937818241073152#64) v0) with _|_
 by_cases h12:(v14.length+1)*40≤140737488355328
 rotate_left
 rotate_left
 by_cases h13:(v14.length+1)*40≤140737488355328
 rotate_left
 rotate_left
 rcases h14:(fCmp .geq (fMul x1 4613937818241073152#64) v0) with _|_
 by_cases h15:(v14.length+1)*40≤140737488355328
 rotate_left
 rotate_left
 by_cases h16:(v14.length+1)*40≤140737488355328
 rotate_left
 rotate_left
 rcases h17:(fCmp .geq (fMul x1 4613937818241073152#64) v0) with _|_
 by_cases h18:(v14.length+1)*40≤140737488355328
 rotate_left
 rotate_left
 by_cases h19:(v14.length+1)*40≤140737488355328
 all_goals simp -implicitDefEqProofs (maxSteps:=4000000) only [*,-ih,flf_0,flx_0,fly_0,flf_4607182418800017408,flx_4607182418800017408,fly_4607182418800017408,flf_4611686018427387904,flx_4611686018427387904,fly_4611686018427387904,flf_4613937818241073152,flx_4613937818241073152,fly_4613937818241073152,EVA.down,ne_eq,seval]
 all_goals exact ih _ _ _ _ (by simp only [*,-ih,flf_0,flx_0,fly_0,flf_4607182418800017408,flx_4607182418800017408,fly_4607182418800017408,flf_4611686018427387904,flx_4611686018427387904,fly_4611686018427387904,flf_4613937818241073152,flx_4613937818241073152,fly_4613937818241073152,EVA.down,ne_eq,seval])
theorem lref24_DrawL3 (D:Nat)(hD:0≤D)(F:Nat)(K:AE→AS→Option Res):∀ (f:Nat) (v0:BitVec 64) (v1:List (BitVec 64)) (v2 v3 v4 v5:Int) (v6:List S40) (v7:List S53) (s:AS),s.keepG 3 [1,2,3,9,10,11] [3]=some ⟨[(1,.f .f64 (v0).toNat),(2,.vs v1.length .unk (enc c43 v1)),(3,.lp 3 0),(9,.sl (some (3,0)) v7.length .op),(10,.i .i64 v2),(11,.i .i64 v3)],[(3,[.i .i64 v4,.i .i64 v5,.vs v6.length .unk (enc S40.cs v6)])],[(3,⟨true,true,53,5,enc S53.cs v7⟩),(1,tab64)],4⟩→
 evLoop (evC (OV F D) 3 F a17L1) f s K=match Pref24_DrawL3 F f v0 v1 v2 v3 v4 v5 v6 v7 with|none=>none|some (.inl _)=>K .ret ⟨[(6,.sl none 0 (.ex 0)),(7,.i .i64 (0)),(8,.i .i64 (240))],[],[(1,tab64)],3⟩|some (.inr (.inl y0))=>K (.ex 0) ⟨[(9,.sl none 0 (.ex 0)),(10,.i .i64 y0)],[],[(1,tab64)],3⟩|some (.inr (.inr (y0,y1)))=>K (.ex 0) ⟨[(9,.sl (some (3,0)) y1.length .op),(10,.i .i64 y0)],[],[(3,⟨true,true,53,5,enc S53.cs y1⟩),(1,tab64)],4⟩:=by
 intro f
 induction f with
 |zero=>intro v0 v1 v2 v3 v4 v5 v6 v7 s hs;simp only [evLoop,Pref24_DrawL3]
 |succ f ih=>
 intro v0 v1 v2 v3 v4 v5 v6 v7 s hs
 obtain ⟨k0,hk,hn,he,hr⟩:=@lk_all (OV F (D)) 3 F a17L1 f K
 rw [loop_succ,hk,a17L1,runC_cutg,hs]
 clear hs
 simp only [Pref24_DrawL3]
 clear hk
 by_cases h1:v3<(v6.length:Int)
 rcases ixo (@pk_S40_cs v6 v3) with h2|⟨x1,h2⟩
 rotate_left
 simp -implicitDefEqProofs (maxSteps:=4000000) only [*,-ih,runC_loop,EVA.down,ne_eq,seval]
 rw [lref24_DrawL2 (D) (by omega) F v0 v1 v3 v4 v5 v6 x1.f_Kind x1.f_Gate x1.f_Qubits x1.f_Bit x1.f_If x1.f_When _ F v2 0 v7 _ (by simp only [*,-ih,EVA.down,ne_eq,seval];try rfl)]
 rcases h3:(Pref24_DrawL2 v0 v1 v3 v4 v5 v6 x1.f_Kind x1.f_Gate x1.f_Qubits x1.f_Bit x1.f_If x1.f_When F v2 0 v7) with _|(_|⟨y2,y3⟩)
 all_goals simp -implicitDefEqProofs (maxSteps:=4000000) only [*,-ih,EVA.down,ne_eq,seval]
 all_goals exact ih _ _ _ _ _ _ _ _ _ (by simp only [*,-ih,EVA.down,ne_eq,seval])
theorem lref24_DrawL4 (D:Nat)(hD:0≤D)(F:Nat)(K:AE→AS→Option Res):∀ (f:Nat) (v0:BitVec 64) (v1:List (BitVec 64)) (v2 v3 v4 v5:Int) (v6:List S40) (s:AS),s.keepG 3 [1,2,3,9,10,11] [3]=some ⟨[(1,.f .f64 (v0).toNat),(2,.vs v1.length .unk (enc c43 v1)),(3,.lp 3 0),(9,.sl none 0 (.ex 0)),(10,.i .i64 v2),(11,.i .i64 v3)],[(3,[.i .i64 v4,.i .i64 v5,.vs v6.length .unk (enc S40.cs v6)])],[(1,tab64)],3⟩→
 evLoop (evC (OV F D) 3 F a17L1) f s K=match Pref24_DrawL4 F f v0 v1 v2 v3 v4 v5 v6 with|none=>none|some (.inl _)=>K .ret ⟨[(6,.sl none 0 (.ex 0)),(7,.i .i64 (0)),(8,.i .i64 (240))],[],[(1,tab64)],3⟩|some (.inr (.inl y0))=>K (.ex 0) ⟨[(9,.sl none 0 (.ex 0)),(10,.i .i64 y0)],[],[(1,tab64)],3⟩|some (.inr (.inr (y0,y1)))=>K (.ex 0) ⟨[(9,.sl (some (3,0)) y1.length .op),(10,.i .i64 y0)],[],[(3,⟨true,true,53,5,enc S53.cs y1⟩),(1,tab64)],4⟩:=by
 have nlref24_DrawL3:=lref24_DrawL3 (D) (by omega) F K
 intro f
 induction f with
 |zero=>intro v0 v1 v2 v3 v4 v5 v6 s hs;simp only [evLoop,Pref24_DrawL4]
 |succ f ih=>
 intro v0 v1 v2 v3 v4 v5 v6 s hs
 obtain ⟨k0,hk,hn,he,hr⟩:=@lk_all (OV F (D)) 3 F a17L1 f K
 rw [loop_succ,hk,a17L1,runC_cutg,hs]
 clear hs
 simp only [Pref24_DrawL4]
 clear hk
 by_cases h1:v3<(v6.length:Int)
 rcases ixo (@pk_S40_cs v6 v3) with h2|⟨x1,h2⟩
 rotate_left
 simp -implicitDefEqProofs (maxSteps:=4000000) only [*,-ih,runC_loop,EVA.down,ne_eq,seval]
 rw [lref24_DrawL1 (D) (by omega) F  _ F v0 v1 v2 v3 0 v4 v5 v6 x1.f_Kind x1.f_Gate x1.f_Qubits x1.f_Bit x1.f_If x1.f_When _ (by simp only [*,-ih,EVA.down,ne_eq,seval];try rfl)]
 rcases h3:(Pref24_DrawL1 F v0 v1 v2 v3 0 v4 v5 v6 x1.f_Kind x1.f_Gate x1.f_Qubits x1.f_Bit x1.f_If x1.f_When) with _|(_|⟨y2,y3,y4,y5,y6,y7,y8⟩|⟨y9,y10,y11,y12,y13,y14,y15,y16⟩)
 all_goals simp -implicitDefEqProofs (maxSteps:=4000000) only [*,-ih,EVA.down,ne_eq,seval]
 all_goals first|exact ih _ _ _ _ _ _ _ _ (by simp only [*,-ih,EVA.down,ne_eq,seval])|exact nlref24_DrawL3 f _ _ _ _ _ _ _ _ _ (by simp only [*,-ih,EVA.down,ne_eq,seval])
theorem eref24_Draw (D:Nat)(hD:6≤D)(F:Nat)(a0_Qubits a0_Bits:Int)(a0_Ops:List S40)(a1:BitVec 64)(a2:List (BitVec 64))(q:Bool):evW 3 (OV F D) F a17 (some [.agg [.i .i64 a0_Qubits,.i .i64 a0_Bits,.vs a0_Ops.length .unk (enc S40.cs a0_Ops)],.f .f64 (a1).toNat,.vs a2.length .unk (enc c43 a2)]) q G0 =
 match Pref24_Draw F a0_Qubits a0_Bits a0_Ops a1 a2 with|none=>none|some (r0,r1,r2)=>some (.tup [.vs r0.length .unk (enc S53.cs r0),.i .i64 r1,.i .i64 r2],none):=by
 obtain ⟨D,rfl⟩:=dex hD
 have flf_0:AV.f .f64 0=.f .f64 (0#64).toNat:=id rfl
 have flx_0:∀ x,AV.c .f64 x 0=.c .f64 x (0#64).toNat:=fun _=>id rfl
 have fly_0:∀ x,AV.c .f64 0 x=.c .f64 (0#64).toNat x:=fun _=>id rfl
 have flf_4607182418800017408:AV.f .f64 4607182418800017408=.f .f64 (4607182418800017408#64).toNat:=id rfl
 have flx_4607182418800017408:∀ x,AV.c .f64 x 4607182418800017408=.c .f64 x (4607182418800017408#64).toNat:=fun _=>id rfl
 have fly_4607182418800017408:∀ x,AV.c .f64 4607182418800017408 x=.c .f64 (4607182418800017408#64).toNat x:=fun _=>id rfl
 have cref08_May0:=eref08_May (D+5) (by omega) F
 rw [evW_some,G0]
 simp only [Pref24_Draw]
 rcases h1:(Pref08_May F a0_Qubits a0_Bits a0_Ops) with _|r1
 rotate_left
 rcases h2:(r1) with _|_
 rotate_left
 rcases h3:(fCmp .geq a1 0#64) with _|_
 rotate_left
 rcases h4:(fCmp .leq a1 4607182418800017408#64) with _|_
 rotate_left
 simp -implicitDefEqProofs (maxSteps:=4000000) only [*,a17,flf_0,flx_0,fly_0,flf_4607182418800017408,flx_4607182418800017408,fly_4607182418800017408,vref08_May,runC_loop,EVA.down,ne_eq,seval]
 rw [lref24_DrawL4 (D+6) (by omega) F  _ F a1 a2 0 0 a0_Qubits a0_Bits a0_Ops _ (by simp only [*,a17,flf_0,flx_0,fly_0,flf_4607182418800017408,flx_4607182418800017408,fly_4607182418800017408,vref08_May,EVA.down,ne_eq,seval];try rfl)]
 rcases h5:(Pref24_DrawL4 F F a1 a2 0 0 a0_Qubits a0_Bits a0_Ops) with _|(_|y2|⟨y3,y4⟩)
 all_goals simp -implicitDefEqProofs (maxSteps:=4000000) only [*,a17,flf_0,flx_0,fly_0,flf_4607182418800017408,flx_4607182418800017408,fly_4607182418800017408,vref08_May,EVA.down,ne_eq,seval]
theorem vref24_Draw {D F n:Nat}{args:List AV}{h:AHeap}:OV F (D+1) 17 args h n (n+1)=evW 3 (OV F D) F a17 (frzs (frz true 0 (bif AV.nors args then [] else h) 8) args) (AV.nors args) (hglb h 3):=evV_frozen rfl
theorem elaw24_num (D:Nat)(hD:0≤D)(F:Nat)(a0:Int)(q:Bool):evW 3 (OV F D) F a11 (some [.i .i64 a0]) q G0 =
 some (.i .i64 ((Plaw24_num a0)),none):=by
 rw [evW_some,G0]
 skip
 all_goals simp -implicitDefEqProofs (maxSteps:=4000000) only [*,a11,Plaw24_num,EVA.down,ne_eq,seval]
theorem vlaw24_num {D F n:Nat}{args:List AV}{h:AHeap}:OV F (D+1) 11 args h n (n+1)=evW 3 (OV F D) F a11 (frzs (frz true 0 (bif AV.nors args then [] else h) 8) args) (AV.nors args) (hglb h 3):=evV_frozen rfl
theorem llaw24_NoiseDrawsL0 (D:Nat)(hD:0≤D)(F:Nat)(v0:List Int)(v1 v2:List S53)(K:AE→AS→Option Res):∀ (f:Nat) (v3:Int) (s:AS),s.keep [3,9,12,15] []=some ⟨[(3,.vs v0.length .unk (enc c3 v0)),(9,.vs v1.length .unk (enc S53.cs v1)),(12,.vs v2.length .unk (enc S53.cs v2)),(15,.i .i64 v3)],[],[(1,tab64)],3⟩→
 evLoop (evC (OV F D) 3 F a4L0) f s K=match Plaw24_NoiseDrawsL0 v0 v1 v2 f v3 with|none=>none|some (.inl _)=>K .ret ⟨[(8,.b false)],[],[(1,tab64)],3⟩|some (.inr _)=>K (.ex 0) ⟨[(3,.vs v0.length .unk (enc c3 v0))],[],[(1,tab64)],3⟩:=by
 intro f
 induction f with
 |zero=>intro v3 s hs;simp only [evLoop,Plaw24_NoiseDrawsL0]
 |succ f ih=>
 intro v3 s hs
 obtain ⟨k0,hk,hn,he,hr⟩:=@lk_all (OV F (D)) 3 F a4L0 f K
 rw [loop_succ,hk,a4L0,runC_cut,hs]
 clear hs
 simp only [Plaw24_NoiseDrawsL0]
 clear hk
 by_cases h1:v3<(v1.length:Int)
 rcases ixo (@pk_S53_cs v1 v3) with h2|⟨x1,h2⟩
 rotate_left
 rcases ixo (@pk_S53_cs v2 v3) with h3|⟨x2,h3⟩
 rotate_left
 rcases h4:((decide (x1.f_After=x2.f_After)&&(decide (x1.f_P_N=x2.f_P_N)&&(decide (x1.f_P_X=x2.f_P_X)&&(decide (x1.f_P_Z=x2.f_P_Z)&&decide (x1.f_P_Phase=x2.f_P_Phase)))))) with _|_
 all_goals simp -implicitDefEqProofs (maxSteps:=4000000) only [*,-ih,EVA.down,ne_eq,seval]
 all_goals exact ih _ _ (by simp only [*,-ih,EVA.down,ne_eq,seval])
theorem room_put {α:Type}{c:α→List AV}(hw:∀ x,(c x).length=1)(W:List α)(C:Nat)(z x:α)(h:W.length+1≤C):splice (enc c W++enc c (List.replicate (C-W.length) z)) W.length (c x)=enc c ((W++[x])++List.replicate (C-(W++[x]).length) z):=by
 have e:C-W.length=(C-(W++[x]).length)+1:=by rw [List.length_append,List.length_singleton];omega
 have hl:=enc_len hw W
 rw [Nat.mul_one] at hl
 rw [splice_eq _ _ _ (by rw [List.length_append,hl,hw,enc_len hw,List.length_replicate];omega),List.take_left' hl,← List.drop_drop,List.drop_left' hl,e,List.replicate_succ,enc_append,enc_append]
 have hd:∀ r,List.drop (c x).length (enc c (z::r))=enc c r:=fun r=>by
  rw [hw]
  show List.drop 1 (c z++enc c r)=_
  exact List.drop_left' (hw z)
 rw [hd]
 show _=enc c W++(c x++[])++_
 rw [List.append_nil]
theorem lnoise_NumbersL0 (D:Nat)(hD:0≤D)(F:Nat)(K:AE→AS→Option Res):∀ (f:Nat) (v0:List Int) (v1 v2:Int) (v3:List (BitVec 64)) (s:AS),s.keepG 3 [4,10,11,12] []=some ⟨[(4,.sl (some (3,0)) v3.length .op),(10,.vs v0.length .unk (enc c3 v0)),(11,.i .i64 v1),(12,.i .i64 v2)],[],[(3,⟨true,true,43,1,enc c43 v3⟩),(1,tab64)],4⟩→
 evLoop (evC (OV F D) 3 F a18L0) f s K=match Pnoise_NumbersL0 f v0 v1 v2 v3 with|none=>none|some (.inl _)=>K .ret ⟨[(2,.sl none 0 (.ex 0)),(3,.i .i64 (240))],[],[(1,tab64)],3⟩|some (.inr (.inl (y0,y1)))=>K (.ex 0) ⟨[(4,.sl (some (3,0)) y0.length (.ex (y1)))],[],[(3,⟨true,false,43,1,enc c43 y0++enc c43 (List.replicate (y1-y0.length) (0#64))⟩),(1,tab64)],4⟩|some (.inr (.inr y0))=>K (.ex 0) ⟨[(4,.sl (some (3,0)) y0.length .op)],[],[(3,⟨true,true,43,1,enc c43 y0⟩),(1,tab64)],4⟩:=by
 have flf_0:AV.f .f64 0=.f .f64 (0#64).toNat:=id rfl
 have flx_0:∀ x,AV.c .f64 x 0=.c .f64 x (0#64).toNat:=fun _=>id rfl
 have fly_0:∀ x,AV.c .f64 0 x=.c .f64 (0#64).toNat x:=fun _=>id rfl
 have flf_4607182418800017407:AV.f .f64 4607182418800017407=.f .f64 (4607182418800017407#64).toNat:=id rfl
 have flx_4607182418800017407:∀ x,AV.c .f64 x 4607182418800017407=.c .f64 x (4607182418800017407#64).toNat:=fun _=>id rfl
 have fly_4607182418800017407:∀ x,AV.c .f64 4607182418800017407 x=.c .f64 (4607182418800017407#64).toNat x:=fun _=>id rfl
 intro f
 induction f with
 |zero=>intro v0 v1 v2 v3 s hs;simp only [evLoop,Pnoise_NumbersL0]
 |succ f ih=>
 intro v0 v1 v2 v3 s hs
 obtain ⟨k0,hk,hn,he,hr⟩:=@lk_all (OV F (D)) 3 F a18L0 f K
 rw [loop_succ,hk,a18L0,runC_cutg,hs]
 clear hs
 simp only [Pnoise_NumbersL0]
 clear hk
 by_cases h1:v2<v1
 rcases ixo (@pk_c3 v0 v2) with h2|⟨x1,h2⟩
 rotate_left
 by_cases h3:x1=0
 replace h3:=eq_true h3
 have h4:inb x1 2=true:=by rw [(of_eq_true h3)];decide
 have h5:Int.toNat x1=0:=by rw [(of_eq_true h3)];rfl
 by_cases h6:(v3.length+1)*8≤140737488355328
 rotate_left
 rotate_left
 by_cases h7:x1=1
 replace h7:=eq_true h7
 have h8:inb x1 2=true:=by rw [(of_eq_true h7)];decide
 have h9:Int.toNat x1=1:=by rw [(of_eq_true h7)];rfl
 by_cases h10:(v3.length+1)*8≤140737488355328
 all_goals simp -implicitDefEqProofs only [*,-ih,flf_0,flx_0,fly_0,flf_4607182418800017407,flx_4607182418800017407,fly_4607182418800017407,EVA.down,ne_eq,seval]
 all_goals exact ih _ _ _ _ _ (by simp only [*,-ih,flf_0,flx_0,fly_0,flf_4607182418800017407,flx_4607182418800017407,fly_4607182418800017407,EVA.down,ne_eq,seval])
theorem lnoise_NumbersL1 (D:Nat)(hD:0≤D)(F:Nat)(K:AE→AS→Option Res):∀ (f:Nat) (v0:List Int) (v1 v2:Int) (v3:List (BitVec 64)) (v4:Nat) (s:AS),s.keepG 3 [4,10,11,12] []=some ⟨[(4,.sl (some (3,0)) v3.length (.ex (v4))),(10,.vs v0.length .unk (enc c3 v0)),(11,.i .i64 v1),(12,.i .i64 v2)],[],[(3,⟨true,false,43,1,enc c43 v3++enc c43 (List.replicate (v4-v3.length) (0#64))⟩),(1,tab64)],4⟩→
 evLoop (evC (OV F D) 3 F a18L0) f s K=match Pnoise_NumbersL1 f v0 v1 v2 v3 v4 with|none=>none|some (.inl _)=>K .ret ⟨[(2,.sl none 0 (.ex 0)),(3,.i .i64 (240))],[],[(1,tab64)],3⟩|some (.inr (.inl (y0,y1)))=>K (.ex 0) ⟨[(4,.sl (some (3,0)) y0.length (.ex (y1)))],[],[(3,⟨true,false,43,1,enc c43 y0++enc c43 (List.replicate (y1-y0.length) (0#64))⟩),(1,tab64)],4⟩|some (.inr (.inr y0))=>K (.ex 0) ⟨[(4,.sl (some (3,0)) y0.length .op)],[],[(3,⟨true,true,43,1,enc c43 y0⟩),(1,tab64)],4⟩:=by
 have flf_0:AV.f .f64 0=.f .f64 (0#64).toNat:=id rfl
 have flx_0:∀ x,AV.c .f64 x 0=.c .f64 x (0#64).toNat:=fun _=>id rfl
 have fly_0:∀ x,AV.c .f64 0 x=.c .f64 (0#64).toNat x:=fun _=>id rfl
 have flf_4607182418800017407:AV.f .f64 4607182418800017407=.f .f64 (4607182418800017407#64).toNat:=id rfl
 have flx_4607182418800017407:∀ x,AV.c .f64 x 4607182418800017407=.c .f64 x (4607182418800017407#64).toNat:=fun _=>id rfl
 have fly_4607182418800017407:∀ x,AV.c .f64 4607182418800017407 x=.c .f64 (4607182418800017407#64).toNat x:=fun _=>id rfl
 have nlnoise_NumbersL0:=lnoise_NumbersL0 (D) (by omega) F K
 intro f
 induction f with
 |zero=>intro v0 v1 v2 v3 v4 s hs;simp only [evLoop,Pnoise_NumbersL1]
 |succ f ih=>
 intro v0 v1 v2 v3 v4 s hs
 obtain ⟨k0,hk,hn,he,hr⟩:=@lk_all (OV F (D)) 3 F a18L0 f K
 rw [loop_succ,hk,a18L0,runC_cutg,hs]
 clear hs
 simp only [Pnoise_NumbersL1]
 clear hk
 by_cases h1:v2<v1
 rcases ixo (@pk_c3 v0 v2) with h2|⟨x1,h2⟩
 rotate_left
 by_cases h3:x1=0
 replace h3:=eq_true h3
 have h4:inb x1 2=true:=by rw [(of_eq_true h3)];decide
 have h5:Int.toNat x1=0:=by rw [(of_eq_true h3)];rfl
 by_cases h6:(v3.length+1)*8≤140737488355328
 have h7:(List.replicate (v4-v3.length) (0#64)).length=v4-v3.length:=List.length_replicate
 by_cases h8:v3.length+1≤v4
 have h9:v3.length+1≤v3.length+(v4-v3.length):=by omega
 have h10:splice (enc c43 v3++enc c43 (List.replicate (v4-v3.length) (0#64))) v3.length [.f .f64 (4607182418800017407#64).toNat]=enc c43 (v3++[(4607182418800017407#64)]++List.replicate (v4-(v3++[(4607182418800017407#64)]).length) (0#64)):=room_put len_c43 v3 (v4) (0#64) (4607182418800017407#64) (by omega)
 rotate_left
 have h11:v3.length≤v3.length+(v4-v3.length):=Nat.le_add_right _ _
 have h12:List.take v3.length (enc c43 v3++enc c43 (List.replicate (v4-v3.length) (0#64)))=enc c43 v3:=List.take_left' (by simpa only [Nat.mul_one] using enclen_c43 _)
 rotate_left
 rotate_left
 by_cases h13:x1=1
 replace h13:=eq_true h13
 have h14:inb x1 2=true:=by rw [(of_eq_true h13)];decide
 have h15:Int.toNat x1=1:=by rw [(of_eq_true h13)];rfl
 by_cases h16:(v3.length+1)*8≤140737488355328
 have h17:(List.replicate (v4-v3.length) (0#64)).length=v4-v3.length:=List.length_replicate
 by_cases h18:v3.length+1≤v4
 have h19:v3.length+1≤v3.length+(v4-v3.length):=by omega
 have h20:splice (enc c43 v3++enc c43 (List.replicate (v4-v3.length) (0#64))) v3.length [.f .f64 (0#64).toNat]=enc c43 (v3++[(0#64)]++List.replicate (v4-(v3++[(0#64)]).length) (0#64)):=room_put len_c43 v3 (v4) (0#64) (0#64) (by omega)
 rotate_left
 have h21:v3.length≤v3.length+(v4-v3.length):=Nat.le_add_right _ _
 have h22:List.take v3.length (enc c43 v3++enc c43 (List.replicate (v4-v3.length) (0#64)))=enc c43 v3:=List.take_left' (by simpa only [Nat.mul_one] using enclen_c43 _)
 all_goals simp -implicitDefEqProofs only [*,-ih,flf_0,flx_0,fly_0,flf_4607182418800017407,flx_4607182418800017407,fly_4607182418800017407,EVA.down,ne_eq,seval]
 all_goals first|exact ih _ _ _ _ _ _ (by simp only [*,-ih,flf_0,flx_0,fly_0,flf_4607182418800017407,flx_4607182418800017407,fly_4607182418800017407,EVA.down,ne_eq,seval])|exact nlnoise_NumbersL0 f _ _ _ _ _ (by simp only [*,-ih,flf_0,flx_0,fly_0,flf_4607182418800017407,flx_4607182418800017407,fly_4607182418800017407,EVA.down,ne_eq,seval])
theorem enoise_Numbers (D:Nat)(hD:0≤D)(F:Nat)(a0:List Int)(q:Bool):evW 3 (OV F D) F a18 (some [.vs a0.length .unk (enc c3 a0)]) q G0 =
 match Pnoise_Numbers F a0 with|none=>none|some (r0,r1)=>some (.tup [.vs r0.length .unk (enc c43 r0),.i .i64 r1],none):=by
 have flf_0:AV.f .f64 0=.f .f64 (0#64).toNat:=id rfl
 have flx_0:∀ x,AV.c .f64 x 0=.c .f64 x (0#64).toNat:=fun _=>id rfl
 have fly_0:∀ x,AV.c .f64 0 x=.c .f64 (0#64).toNat x:=fun _=>id rfl
 rw [evW_some,G0]
 simp only [Pnoise_Numbers]
 rcases h1:(mkOk 8 0 (a0.length:Int)) with _|_
 rotate_left
 have h2:(List.replicate (a0.length) [.f .f64 (0#64).toNat]).flatten=enc c43 (List.replicate (a0.length) (0#64)):=enc_repl c43 _ _
 simp -implicitDefEqProofs only [*,a18,flf_0,flx_0,fly_0,runC_loop,EVA.down,ne_eq,seval]
 rw [lnoise_NumbersL1 (D) (by omega) F  _ F a0 (a0.length:Int) 0 ([]:List (BitVec 64)) a0.length _ (by simp only [*,a18,flf_0,flx_0,fly_0,EVA.down,ne_eq,seval];try rfl)]
 rcases h3:(Pnoise_NumbersL1 F a0 (a0.length:Int) 0 ([]:List (BitVec 64)) a0.length) with _|(_|⟨y1,y2⟩|y3)
 rotate_left
 rotate_left
 have h4:List.take y1.length (enc c43 y1++enc c43 (List.replicate (y2-y1.length) (0#64)))=enc c43 y1:=List.take_left' (by simpa only [Nat.mul_one] using enclen_c43 _)
 have h5:y1.length≤y1.length+(List.replicate (y2-y1.length) (0#64)).length:=Nat.le_add_right _ _
 all_goals simp -implicitDefEqProofs only [*,a18,flf_0,flx_0,fly_0,EVA.down,ne_eq,seval]
theorem vnoise_Numbers {D F n:Nat}{args:List AV}{h:AHeap}:OV F (D+1) 18 args h n (n+1)=evW 3 (OV F D) F a18 (frzs (frz true 0 (bif AV.nors args then [] else h) 8) args) (AV.nors args) (hglb h 3):=evV_frozen rfl
theorem lref24_NumbersL0 (D:Nat)(hD:0≤D)(F:Nat)(K:AE→AS→Option Res):∀ (f:Nat) (v0:List Int) (v1:Int) (v2:List (BitVec 64)) (s:AS),s.keepG 3 [0,4,5] []=some ⟨[(0,.vs v0.length .unk (enc c3 v0)),(4,.sl (some (3,0)) v2.length .op),(5,.i .i64 v1)],[],[(3,⟨true,true,43,1,enc c43 v2⟩),(1,tab64)],4⟩→
 evLoop (evC (OV F D) 3 F a19L0) f s K=match Pref24_NumbersL0 f v0 v1 v2 with|none=>none|some (.inl _)=>K .ret ⟨[(2,.sl none 0 (.ex 0)),(3,.i .i64 (240))],[],[(1,tab64)],3⟩|some (.inr (.inl _))=>K (.ex 0) ⟨[(4,.sl none 0 (.ex 0))],[],[(1,tab64)],3⟩|some (.inr (.inr y0))=>K (.ex 0) ⟨[(4,.sl (some (3,0)) y0.length .op)],[],[(3,⟨true,true,43,1,enc c43 y0⟩),(1,tab64)],4⟩:=by
 have flf_0:AV.f .f64 0=.f .f64 (0#64).toNat:=id rfl
 have flx_0:∀ x,AV.c .f64 x 0=.c .f64 x (0#64).toNat:=fun _=>id rfl
 have fly_0:∀ x,AV.c .f64 0 x=.c .f64 (0#64).toNat x:=fun _=>id rfl
 have flf_4607182418800017407:AV.f .f64 4607182418800017407=.f .f64 (4607182418800017407#64).toNat:=id rfl
 have flx_4607182418800017407:∀ x,AV.c .f64 x 4607182418800017407=.c .f64 x (4607182418800017407#64).toNat:=fun _=>id rfl
 have fly_4607182418800017407:∀ x,AV.c .f64 4607182418800017407 x=.c .f64 (4607182418800017407#64).toNat x:=fun _=>id rfl
 intro f
 induction f with
 |zero=>intro v0 v1 v2 s hs;simp only [evLoop,Pref24_NumbersL0]
 |succ f ih=>
 intro v0 v1 v2 s hs
 obtain ⟨k0,hk,hn,he,hr⟩:=@lk_all (OV F (D)) 3 F a19L0 f K
 rw [loop_succ,hk,a19L0,runC_cutg,hs]
 clear hs
 simp only [Pref24_NumbersL0]
 clear hk
 by_cases h1:v1<(v0.length:Int)
 rcases ixo (@pk_c3 v0 v1) with h2|⟨x1,h2⟩
 rotate_left
 by_cases h3:x1=0
 replace h3:=eq_true h3
 by_cases h4:(v2.length+1)*8≤140737488355328
 rotate_left
 rotate_left
 by_cases h5:x1=1
 replace h5:=eq_true h5
 by_cases h6:(v2.length+1)*8≤140737488355328
 all_goals simp -implicitDefEqProofs only [*,-ih,flf_0,flx_0,fly_0,flf_4607182418800017407,flx_4607182418800017407,fly_4607182418800017407,EVA.down,ne_eq,seval]
 all_goals exact ih _ _ _ _ (by simp only [*,-ih,flf_0,flx_0,fly_0,flf_4607182418800017407,flx_4607182418800017407,fly_4607182418800017407,EVA.down,ne_eq,seval])
theorem lref24_NumbersL1 (D:Nat)(hD:0≤D)(F:Nat)(K:AE→AS→Option Res):∀ (f:Nat) (v0:List Int) (v1:Int) (s:AS),s.keepG 3 [0,4,5] []=some ⟨[(0,.vs v0.length .unk (enc c3 v0)),(4,.sl none 0 (.ex 0)),(5,.i .i64 v1)],[],[(1,tab64)],3⟩→
 evLoop (evC (OV F D) 3 F a19L0) f s K=match Pref24_NumbersL1 f v0 v1 with|none=>none|some (.inl _)=>K .ret ⟨[(2,.sl none 0 (.ex 0)),(3,.i .i64 (240))],[],[(1,tab64)],3⟩|some (.inr (.inl _))=>K (.ex 0) ⟨[(4,.sl none 0 (.ex 0))],[],[(1,tab64)],3⟩|some (.inr (.inr y0))=>K (.ex 0) ⟨[(4,.sl (some (3,0)) y0.length .op)],[],[(3,⟨true,true,43,1,enc c43 y0⟩),(1,tab64)],4⟩:=by
 have flf_0:AV.f .f64 0=.f .f64 (0#64).toNat:=id rfl
 have flx_0:∀ x,AV.c .f64 x 0=.c .f64 x (0#64).toNat:=fun _=>id rfl
 have fly_0:∀ x,AV.c .f64 0 x=.c .f64 (0#64).toNat x:=fun _=>id rfl
 have flf_4607182418800017407:AV.f .f64 4607182418800017407=.f .f64 (4607182418800017407#64).toNat:=id rfl
 have flx_4607182418800017407:∀ x,AV.c .f64 x 4607182418800017407=.c .f64 x (4607182418800017407#64).toNat:=fun _=>id rfl
 have fly_4607182418800017407:∀ x,AV.c .f64 4607182418800017407 x=.c .f64 (4607182418800017407#64).toNat x:=fun _=>id rfl
 have nlref24_NumbersL0:=lref24_NumbersL0 (D) (by omega) F K
 intro f
 induction f with
 |zero=>intro v0 v1 s hs;simp only [evLoop,Pref24_NumbersL1]
 |succ f ih=>
 intro v0 v1 s hs
 obtain ⟨k0,hk,hn,he,hr⟩:=@lk_all (OV F (D)) 3 F a19L0 f K
 rw [loop_succ,hk,a19L0,runC_cutg,hs]
 clear hs
 simp only [Pref24_NumbersL1]
 clear hk
 by_cases h1:v1<(v0.length:Int)
 rcases ixo (@pk_c3 v0 v1) with h2|⟨x1,h2⟩
 rotate_left
 by_cases h3:x1=0
 replace h3:=eq_true h3
 rotate_left
 by_cases h4:x1=1
 replace h4:=eq_true h4
 all_goals simp -implicitDefEqProofs only [*,-ih,flf_0,flx_0,fly_0,flf_4607182418800017407,flx_4607182418800017407,fly_4607182418800017407,EVA.down,ne_eq,seval]
 all_goals exact nlref24_NumbersL0 f _ _ _ _ (by simp only [*,-ih,flf_0,flx_0,fly_0,flf_4607182418800017407,flx_4607182418800017407,fly_4607182418800017407,EVA.down,ne_eq,seval])
theorem eref24_Numbers (D:Nat)(hD:0≤D)(F:Nat)(a0:List Int)(q:Bool):evW 3 (OV F D) F a19 (some [.vs a0.length .unk (enc c3 a0)]) q G0 =
 match Pref24_Numbers F a0 with|none=>none|some (r0,r1)=>some (.tup [.vs r0.length .unk (enc c43 r0),.i .i64 r1],none):=by
 rw [evW_some,G0]
 simp only [Pref24_Numbers]
 simp -implicitDefEqProofs only [*,a19,runC_loop,EVA.down,ne_eq,seval]
 rw [lref24_NumbersL1 (D) (by omega) F  _ F a0 0 _ (by simp only [*,a19,EVA.down,ne_eq,seval];try rfl)]
 rcases h1:(Pref24_NumbersL1 F a0 0) with _|(_|_|y1)
 all_goals simp -implicitDefEqProofs only [*,a19,EVA.down,ne_eq,seval]
theorem vref24_Numbers {D F n:Nat}{args:List AV}{h:AHeap}:OV F (D+1) 19 args h n (n+1)=evW 3 (OV F D) F a19 (frzs (frz true 0 (bif AV.nors args then [] else h) 8) args) (AV.nors args) (hglb h 3):=evV_frozen rfl
theorem eref02_Same (D:Nat)(hD:0≤D)(F:Nat)(a0 a1:BitVec 64)(q:Bool):evW 3 (OV F D) F a20 (some [.f .f64 (a0).toNat,.f .f64 (a1).toNat]) q G0 =
 some (.b ((Pref02_Same a0 a1)),none):=by
 rw [evW_some,G0]
 skip
 all_goals simp -implicitDefEqProofs only [*,a20,Pref02_Same,k40,EVA.down,ne_eq,seval]
theorem vref02_Same {D F n:Nat}{args:List AV}{h:AHeap}:OV F (D+1) 20 args h n (n+1)=evW 3 (OV F D) F a20 (frzs (frz true 0 (bif AV.nors args then [] else h) 8) args) (AV.nors args) (hglb h 3):=evV_frozen rfl
theorem llaw24_NoiseDrawsL1 (D:Nat)(hD:1≤D)(F:Nat)(v0 v1:List (BitVec 64))(K:AE→AS→Option Res):∀ (f:Nat) (v2:Int) (s:AS),s.keep [16,18,20] []=some ⟨[(16,.vs v0.length .unk (enc c43 v0)),(18,.vs v1.length .unk (enc c43 v1)),(20,.i .i64 v2)],[],[(1,tab64)],3⟩→
 evLoop (evC (OV F D) 3 F a4L1) f s K=match Plaw24_NoiseDrawsL1 v0 v1 f v2 with|none=>none|some (.inl _)=>K .ret ⟨[(8,.b false)],[],[(1,tab64)],3⟩|some (.inr _)=>K (.ex 2) ⟨[],[],[(1,tab64)],3⟩:=by
 obtain ⟨D,rfl⟩:=dex hD
 have cref02_Same0:=eref02_Same (D) (by omega) F
 intro f
 induction f with
 |zero=>intro v2 s hs;simp only [evLoop,Plaw24_NoiseDrawsL1]
 |succ f ih=>
 intro v2 s hs
 obtain ⟨k0,hk,hn,he,hr⟩:=@lk_all (OV F (D+1)) 3 F a4L1 f K
 rw [loop_succ,hk,a4L1,runC_cut,hs]
 clear hs
 simp only [Plaw24_NoiseDrawsL1]
 clear hk
 by_cases h1:v2<(v0.length:Int)
 rcases ixo (@pk_c43 v0 v2) with h2|⟨x1,h2⟩
 rotate_left
 rcases ixo (@pk_c43 v1 v2) with h3|⟨x2,h3⟩
 rotate_left
 rcases h4:((Pref02_Same x1 x2)) with _|_
 all_goals simp -implicitDefEqProofs (maxSteps:=4000000) only [*,-ih,vref02_Same,EVA.down,ne_eq,seval]
 all_goals exact ih _ _ (by simp only [*,-ih,vref02_Same,EVA.down,ne_eq,seval])
theorem elaw24_NoiseDraws (D:Nat)(hD:7≤D)(F:Nat)(a0_Qubits a0_Bits:Int)(a0_Ops:List S40)(a1:BitVec 64)(a2:List (BitVec 64))(a3:List Int)(q:Bool):evW 3 (OV F D) F a4 (some [.agg [.i .i64 a0_Qubits,.i .i64 a0_Bits,.vs a0_Ops.length .unk (enc S40.cs a0_Ops)],.f .f64 (a1).toNat,.vs a2.length .unk (enc c43 a2),.vs a3.length .unk (enc c3 a3)]) q G0 =
 match Plaw24_NoiseDraws F a0_Qubits a0_Bits a0_Ops a1 a2 a3 with|none=>none|some r0=>some (.b r0,none):=by
 obtain ⟨D,rfl⟩:=dex hD
 have claw24_num0:=elaw24_num (D+6) (by omega) F
 have cnoise_Draw0:=enoise_Draw (D+6) (by omega) F
 have cref24_Draw0:=eref24_Draw (D+6) (by omega) F
 have cnoise_Numbers0:=enoise_Numbers (D+6) (by omega) F
 have cref24_Numbers0:=eref24_Numbers (D+6) (by omega) F
 rw [evW_some,G0]
 simp only [Plaw24_NoiseDraws]
 rcases h1:(Pnoise_Draw F a0_Qubits a0_Bits a0_Ops a1 a2) with _|⟨r1,r2,r3⟩
 rotate_left
 rcases h2:(Pref24_Draw F a0_Qubits a0_Bits a0_Ops a1 a2) with _|⟨r4,r5,r6⟩
 rotate_left
 by_cases h3:(Plaw24_num r3)=r6
 replace h3:=eq_true h3
 by_cases h4:r2=r5
 replace h4:=eq_true h4
 by_cases h5:(r1.length:Int)=(r4.length:Int)
 replace h5:=eq_true h5
 simp -implicitDefEqProofs (maxSteps:=4000000) only [*,a4,vlaw24_num,vnoise_Draw,vref24_Draw,vnoise_Numbers,vref24_Numbers,k15,runC_loop,EVA.down,ne_eq,seval]
 rw [llaw24_NoiseDrawsL0 (D+7) (by omega) F a3 r1 r4 _ F 0 _ (by simp only [*,a4,vlaw24_num,vnoise_Draw,vref24_Draw,vnoise_Numbers,vref24_Numbers,k15,EVA.down,ne_eq,seval];try rfl)]
 rcases h6:(Plaw24_NoiseDrawsL0 a3 r1 r4 F 0) with _|(_|_)
 rotate_left
 rotate_left
 rcases h7:(Pnoise_Numbers F a3) with _|⟨r7,r8⟩
 rotate_left
 rcases h8:(Pref24_Numbers F a3) with _|⟨r9,r10⟩
 rotate_left
 by_cases h9:(Plaw24_num r8)=r10
 replace h9:=eq_true h9
 by_cases h10:(r7.length:Int)=(r9.length:Int)
 replace h10:=eq_true h10
 simp -implicitDefEqProofs (maxSteps:=4000000) only [*,a4,vlaw24_num,vnoise_Draw,vref24_Draw,vnoise_Numbers,vref24_Numbers,k15,runC_loop,EVA.down,ne_eq,seval]
 rw [llaw24_NoiseDrawsL1 (D+7) (by omega) F r7 r9 _ F 0 _ (by simp only [*,a4,vlaw24_num,vnoise_Draw,vref24_Draw,vnoise_Numbers,vref24_Numbers,k15,EVA.down,ne_eq,seval];try rfl)]
 rcases h11:(Plaw24_NoiseDrawsL1 r7 r9 F 0) with _|(_|_)
 all_goals simp -implicitDefEqProofs (maxSteps:=4000000) only [*,a4,vlaw24_num,vnoise_Draw,vref24_Draw,vnoise_Numbers,vref24_Numbers,k15,EVA.down,ne_eq,seval]
theorem vlaw24_NoiseDraws {D F n:Nat}{args:List AV}{h:AHeap}:OV F (D+1) 4 args h n (n+1)=evW 3 (OV F D) F a4 (frzs (frz true 0 (bif AV.nors args then [] else h) 8) args) (AV.nors args) (hglb h 3):=evV_frozen rfl
end Go.Proofs.YtbbikmfjnanpmaaDoor.Ab
