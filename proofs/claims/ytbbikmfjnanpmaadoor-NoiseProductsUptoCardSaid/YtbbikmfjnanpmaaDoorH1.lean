/- Functions of the program as plain functions, and that the abstract machine's evaluation comes to them. Written by G.py. No condition. -/
import Derived.Test.YtbbikmfjnanpmaaDoorHd
set_option maxRecDepth 100000
set_option maxHeartbeats 4000000
set_option linter.unusedVariables false
set_option linter.unusedSimpArgs false
namespace Go.Proofs.YtbbikmfjnanpmaaDoor.Ab
open Go
theorem len_Pl_cells:∀ x,(Pl.cells x).length=4:=fun _=>rfl
theorem nors_Pl_cells (x:Pl):AV.nors (Pl.cells x)=true:=by simp only [Pl.cells,AV.nors,AV.nor,Bool.and_self]
theorem one_Pl_cells (x:Pl):(Pl.cells x).all AV.one=true:=by simp only [Pl.cells,List.all_cons,List.all_nil,AV.one,Bool.and_self]
theorem flat_Pl_cells (x:Pl):(Pl.cells x).all AV.flat1=true:=by simp only [Pl.cells,List.all_cons,List.all_nil,AV.flat1,Bool.and_self]
theorem encnors_Pl_cells (l:List Pl):AV.nors (enc Pl.cells l)=true:=enc_nors nors_Pl_cells l
theorem enclen_Pl_cells (l:List Pl):(enc Pl.cells l).length=l.length*4:=enc_len len_Pl_cells l
theorem encone_Pl_cells (l:List Pl):(enc Pl.cells l).all AV.one=true:=enc_all one_Pl_cells l
theorem encall_Pl_cells (l:List Pl):(enc Pl.cells l).all AV.flat1=true:=enc_all flat_Pl_cells l
theorem flatt_Pl_cells (x:Pl):(Pl.cells x).all AV.flat2=true:=by simp only [Pl.cells,List.all_cons,List.all_nil,AV.flat2,Bool.and_self]
theorem encflat_Pl_cells {q:Bool}{b:Nat}{h:AHeap}{f:Nat}(l:List Pl):frzs (frz q b h (f+1)) (enc Pl.cells l)=some (enc Pl.cells l):=frzs_flat2 (enc_all flatt_Pl_cells l)
theorem enctake_Pl_cells (l:List Pl):(enc Pl.cells l).take (l.length*4)=enc Pl.cells l:=by simpa only [Nat.mul_one] using enc_take len_Pl_cells l
theorem encids_Pl_cells {b:Nat}{l:List Nat}(m:List Pl):AV.idss b (enc Pl.cells m) l=l:=idss_nors (encnors_Pl_cells m)
theorem encren_Pl_cells {b c:Nat}{l:List Nat}(m:List Pl):AV.rens b c l (enc Pl.cells m)=some (enc Pl.cells m):=rens_id (encnors_Pl_cells m)
theorem encold_Pl_cells {b:Nat}(m:List Pl):AV.olds b (enc Pl.cells m)=true:=olds_nors (encnors_Pl_cells m)
theorem encpart_Pl_cells (l:List Pl)(k:Nat):(enc Pl.cells l).take (k*4)=enc Pl.cells (l.take k):=by simpa only [Nat.mul_one] using enc_takew len_Pl_cells l k
theorem encdrop_Pl_cells (l:List Pl)(k:Nat):(enc Pl.cells l).drop (k*4)=enc Pl.cells (l.drop k):=by simpa only [Nat.mul_one] using enc_dropw len_Pl_cells l k
theorem pk_Pl_cells {l:List Pl}{j:Int}{x:Pl}(h:idx l j=some x):idx l j=some x∧inb j l.length=true∧apart_ ((enc Pl.cells l).drop (j.toNat*4)) 0 (some 4)=some (.agg (Pl.cells x))∧apart_ ((enc Pl.cells l).drop (j.toNat*4)) 0 none=(Pl.cells x)[0]?∧apart_ (((enc Pl.cells l).drop (j.toNat*4)).drop 1) 0 none=(Pl.cells x)[1]?∧apart_ (((enc Pl.cells l).drop (j.toNat*4)).drop 2) 0 none=(Pl.cells x)[2]?∧apart_ (((enc Pl.cells l).drop (j.toNat*4)).drop 3) 0 none=(Pl.cells x)[3]?∧apart_ (enc Pl.cells l) (j.toNat*4) (some 4)=some (.agg (Pl.cells x))∧apart_ (enc Pl.cells l) (j.toNat*4) none=(Pl.cells x)[0]?∧apart_ (enc Pl.cells l) (j.toNat*4+1) none=(Pl.cells x)[1]?∧apart_ (enc Pl.cells l) (j.toNat*4+2) none=(Pl.cells x)[2]?∧apart_ (enc Pl.cells l) (j.toNat*4+3) none=(Pl.cells x)[3]?:=⟨h,idx_inb h,vp_row len_Pl_cells h,vp_cell0 len_Pl_cells h (by decide),vp_cell (k:=1) len_Pl_cells h (by decide),vp_cell (k:=2) len_Pl_cells h (by decide),vp_cell (k:=3) len_Pl_cells h (by decide),own_row len_Pl_cells h,own_cell0 len_Pl_cells h (by decide),own_cell (k:=1) len_Pl_cells h (by decide),own_cell (k:=2) len_Pl_cells h (by decide),own_cell (k:=3) len_Pl_cells h (by decide)⟩
def c3 (x:Int):List AV:=[.i .i64 x]
theorem len_c3:∀ x,(c3 x).length=1:=fun _=>rfl
theorem nors_c3 (x:Int):AV.nors (c3 x)=true:=by simp only [c3,AV.nors,AV.nor,Bool.and_self,encnors_Pl_cells]
theorem one_c3 (x:Int):(c3 x).all AV.one=true:=by simp only [c3,List.all_cons,List.all_nil,AV.one,Bool.and_self]
theorem flat_c3 (x:Int):(c3 x).all AV.flat1=true:=by simp only [c3,List.all_cons,List.all_nil,AV.flat1,Bool.and_self]
theorem encnors_c3 (l:List Int):AV.nors (enc c3 l)=true:=enc_nors nors_c3 l
theorem enclen_c3 (l:List Int):(enc c3 l).length=l.length*1:=enc_len len_c3 l
theorem encone_c3 (l:List Int):(enc c3 l).all AV.one=true:=enc_all one_c3 l
theorem encall_c3 (l:List Int):(enc c3 l).all AV.flat1=true:=enc_all flat_c3 l
theorem flatt_c3 (x:Int):(c3 x).all AV.flat2=true:=by simp only [c3,List.all_cons,List.all_nil,AV.flat2,Bool.and_self]
theorem encflat_c3 {q:Bool}{b:Nat}{h:AHeap}{f:Nat}(l:List Int):frzs (frz q b h (f+1)) (enc c3 l)=some (enc c3 l):=frzs_flat2 (enc_all flatt_c3 l)
theorem enctake_c3 (l:List Int):(enc c3 l).take l.length=enc c3 l:=by simpa only [Nat.mul_one] using enc_take len_c3 l
theorem encids_c3 {b:Nat}{l:List Nat}(m:List Int):AV.idss b (enc c3 m) l=l:=idss_nors (encnors_c3 m)
theorem encren_c3 {b c:Nat}{l:List Nat}(m:List Int):AV.rens b c l (enc c3 m)=some (enc c3 m):=rens_id (encnors_c3 m)
theorem encold_c3 {b:Nat}(m:List Int):AV.olds b (enc c3 m)=true:=olds_nors (encnors_c3 m)
theorem encpart_c3 (l:List Int)(k:Nat):(enc c3 l).take k=enc c3 (l.take k):=by simpa only [Nat.mul_one] using enc_takew len_c3 l k
theorem encdrop_c3 (l:List Int)(k:Nat):(enc c3 l).drop k=enc c3 (l.drop k):=by simpa only [Nat.mul_one] using enc_dropw len_c3 l k
theorem pk_c3 {l:List Int}{j:Int}{x:Int}(h:idx l j=some x):idx l j=some x∧inb j l.length=true∧apart_ ((enc c3 l).drop j.toNat) 0 none=(c3 x)[0]?∧apart_ (enc c3 l) j.toNat none=(c3 x)[0]?:=⟨h,idx_inb h,vp_one len_c3 h,own_one len_c3 h⟩
def S40.cs (p:S40):List AV:=[.i .i64 p.f_Kind,.i .i64 p.f_Gate,.vs (p.f_Qubits.length) .unk (enc c3 p.f_Qubits),.i .i64 p.f_Bit,.i .i64 p.f_If,.i .i64 p.f_When]
theorem len_S40_cs:∀ x,(S40.cs x).length=6:=fun _=>rfl
theorem nors_S40_cs (x:S40):AV.nors (S40.cs x)=true:=by simp only [S40.cs,AV.nors,AV.nor,Bool.and_self,encnors_Pl_cells,encnors_c3]
theorem one_S40_cs (x:S40):(S40.cs x).all AV.one=true:=by simp only [S40.cs,List.all_cons,List.all_nil,AV.one,Bool.and_self]
theorem flat_S40_cs (x:S40):(S40.cs x).all AV.flat1=true:=by simp only [S40.cs,List.all_cons,List.all_nil,AV.flat1,Bool.and_self]
theorem encnors_S40_cs (l:List S40):AV.nors (enc S40.cs l)=true:=enc_nors nors_S40_cs l
theorem enclen_S40_cs (l:List S40):(enc S40.cs l).length=l.length*6:=enc_len len_S40_cs l
theorem encone_S40_cs (l:List S40):(enc S40.cs l).all AV.one=true:=enc_all one_S40_cs l
theorem encall_S40_cs (l:List S40):(enc S40.cs l).all AV.flat1=true:=enc_all flat_S40_cs l
theorem encflat_S40_cs {b:Nat}{h:AHeap}{f:Nat}(l:List S40):frzs (frz true b h (f+1)) (enc S40.cs l)=some (enc S40.cs l):=frzs_flat (enc_all flat_S40_cs l)
theorem enctake_S40_cs (l:List S40):(enc S40.cs l).take (l.length*6)=enc S40.cs l:=by simpa only [Nat.mul_one] using enc_take len_S40_cs l
theorem encids_S40_cs {b:Nat}{l:List Nat}(m:List S40):AV.idss b (enc S40.cs m) l=l:=idss_nors (encnors_S40_cs m)
theorem encren_S40_cs {b c:Nat}{l:List Nat}(m:List S40):AV.rens b c l (enc S40.cs m)=some (enc S40.cs m):=rens_id (encnors_S40_cs m)
theorem encold_S40_cs {b:Nat}(m:List S40):AV.olds b (enc S40.cs m)=true:=olds_nors (encnors_S40_cs m)
theorem encpart_S40_cs (l:List S40)(k:Nat):(enc S40.cs l).take (k*6)=enc S40.cs (l.take k):=by simpa only [Nat.mul_one] using enc_takew len_S40_cs l k
theorem encdrop_S40_cs (l:List S40)(k:Nat):(enc S40.cs l).drop (k*6)=enc S40.cs (l.drop k):=by simpa only [Nat.mul_one] using enc_dropw len_S40_cs l k
theorem pk_S40_cs {l:List S40}{j:Int}{x:S40}(h:idx l j=some x):idx l j=some x∧inb j l.length=true∧apart_ ((enc S40.cs l).drop (j.toNat*6)) 0 (some 6)=some (.agg (S40.cs x))∧apart_ ((enc S40.cs l).drop (j.toNat*6)) 0 none=(S40.cs x)[0]?∧apart_ (((enc S40.cs l).drop (j.toNat*6)).drop 1) 0 none=(S40.cs x)[1]?∧apart_ (((enc S40.cs l).drop (j.toNat*6)).drop 2) 0 none=(S40.cs x)[2]?∧apart_ (((enc S40.cs l).drop (j.toNat*6)).drop 3) 0 none=(S40.cs x)[3]?∧apart_ (((enc S40.cs l).drop (j.toNat*6)).drop 4) 0 none=(S40.cs x)[4]?∧apart_ (((enc S40.cs l).drop (j.toNat*6)).drop 5) 0 none=(S40.cs x)[5]?∧apart_ (enc S40.cs l) (j.toNat*6) (some 6)=some (.agg (S40.cs x))∧apart_ (enc S40.cs l) (j.toNat*6) none=(S40.cs x)[0]?∧apart_ (enc S40.cs l) (j.toNat*6+1) none=(S40.cs x)[1]?∧apart_ (enc S40.cs l) (j.toNat*6+2) none=(S40.cs x)[2]?∧apart_ (enc S40.cs l) (j.toNat*6+3) none=(S40.cs x)[3]?∧apart_ (enc S40.cs l) (j.toNat*6+4) none=(S40.cs x)[4]?∧apart_ (enc S40.cs l) (j.toNat*6+5) none=(S40.cs x)[5]?:=⟨h,idx_inb h,vp_row len_S40_cs h,vp_cell0 len_S40_cs h (by decide),vp_cell (k:=1) len_S40_cs h (by decide),vp_cell (k:=2) len_S40_cs h (by decide),vp_cell (k:=3) len_S40_cs h (by decide),vp_cell (k:=4) len_S40_cs h (by decide),vp_cell (k:=5) len_S40_cs h (by decide),own_row len_S40_cs h,own_cell0 len_S40_cs h (by decide),own_cell (k:=1) len_S40_cs h (by decide),own_cell (k:=2) len_S40_cs h (by decide),own_cell (k:=3) len_S40_cs h (by decide),own_cell (k:=4) len_S40_cs h (by decide),own_cell (k:=5) len_S40_cs h (by decide)⟩
def S53.cs (p:S53):List AV:=[.i .i64 p.f_After,.i .i64 p.f_P_N,.i .u64 (U p.f_P_X),.i .u64 (U p.f_P_Z),.i .i64 p.f_P_Phase]
theorem len_S53_cs:∀ x,(S53.cs x).length=5:=fun _=>rfl
theorem nors_S53_cs (x:S53):AV.nors (S53.cs x)=true:=by simp only [S53.cs,AV.nors,AV.nor,Bool.and_self,encnors_Pl_cells,encnors_c3,encnors_S40_cs]
theorem one_S53_cs (x:S53):(S53.cs x).all AV.one=true:=by simp only [S53.cs,List.all_cons,List.all_nil,AV.one,Bool.and_self]
theorem flat_S53_cs (x:S53):(S53.cs x).all AV.flat1=true:=by simp only [S53.cs,List.all_cons,List.all_nil,AV.flat1,Bool.and_self]
theorem encnors_S53_cs (l:List S53):AV.nors (enc S53.cs l)=true:=enc_nors nors_S53_cs l
theorem enclen_S53_cs (l:List S53):(enc S53.cs l).length=l.length*5:=enc_len len_S53_cs l
theorem encone_S53_cs (l:List S53):(enc S53.cs l).all AV.one=true:=enc_all one_S53_cs l
theorem encall_S53_cs (l:List S53):(enc S53.cs l).all AV.flat1=true:=enc_all flat_S53_cs l
theorem flatt_S53_cs (x:S53):(S53.cs x).all AV.flat2=true:=by simp only [S53.cs,List.all_cons,List.all_nil,AV.flat2,Bool.and_self]
theorem encflat_S53_cs {q:Bool}{b:Nat}{h:AHeap}{f:Nat}(l:List S53):frzs (frz q b h (f+1)) (enc S53.cs l)=some (enc S53.cs l):=frzs_flat2 (enc_all flatt_S53_cs l)
theorem enctake_S53_cs (l:List S53):(enc S53.cs l).take (l.length*5)=enc S53.cs l:=by simpa only [Nat.mul_one] using enc_take len_S53_cs l
theorem encids_S53_cs {b:Nat}{l:List Nat}(m:List S53):AV.idss b (enc S53.cs m) l=l:=idss_nors (encnors_S53_cs m)
theorem encren_S53_cs {b c:Nat}{l:List Nat}(m:List S53):AV.rens b c l (enc S53.cs m)=some (enc S53.cs m):=rens_id (encnors_S53_cs m)
theorem encold_S53_cs {b:Nat}(m:List S53):AV.olds b (enc S53.cs m)=true:=olds_nors (encnors_S53_cs m)
theorem encpart_S53_cs (l:List S53)(k:Nat):(enc S53.cs l).take (k*5)=enc S53.cs (l.take k):=by simpa only [Nat.mul_one] using enc_takew len_S53_cs l k
theorem encdrop_S53_cs (l:List S53)(k:Nat):(enc S53.cs l).drop (k*5)=enc S53.cs (l.drop k):=by simpa only [Nat.mul_one] using enc_dropw len_S53_cs l k
theorem pk_S53_cs {l:List S53}{j:Int}{x:S53}(h:idx l j=some x):idx l j=some x∧inb j l.length=true∧apart_ ((enc S53.cs l).drop (j.toNat*5)) 0 (some 5)=some (.agg (S53.cs x))∧apart_ ((enc S53.cs l).drop (j.toNat*5)) 0 none=(S53.cs x)[0]?∧apart_ (((enc S53.cs l).drop (j.toNat*5)).drop 1) 0 none=(S53.cs x)[1]?∧apart_ (((enc S53.cs l).drop (j.toNat*5)).drop 2) 0 none=(S53.cs x)[2]?∧apart_ (((enc S53.cs l).drop (j.toNat*5)).drop 3) 0 none=(S53.cs x)[3]?∧apart_ (((enc S53.cs l).drop (j.toNat*5)).drop 4) 0 none=(S53.cs x)[4]?∧apart_ (enc S53.cs l) (j.toNat*5) (some 5)=some (.agg (S53.cs x))∧apart_ (enc S53.cs l) (j.toNat*5) none=(S53.cs x)[0]?∧apart_ (enc S53.cs l) (j.toNat*5+1) none=(S53.cs x)[1]?∧apart_ (enc S53.cs l) (j.toNat*5+2) none=(S53.cs x)[2]?∧apart_ (enc S53.cs l) (j.toNat*5+3) none=(S53.cs x)[3]?∧apart_ (enc S53.cs l) (j.toNat*5+4) none=(S53.cs x)[4]?∧apart_ (((enc S53.cs l).drop (j.toNat*5)).drop 1) 0 (some 4)=some (.agg (((S53.cs x).drop 1).take 4))∧apart_ (enc S53.cs l) (j.toNat*5+1) (some 4)=some (.agg (((S53.cs x).drop 1).take 4))∧apart_ ((((enc S53.cs l).drop (j.toNat*5)).drop 1).drop 1) 0 none=(S53.cs x)[2]?∧apart_ ((((enc S53.cs l).drop (j.toNat*5)).drop 1).drop 2) 0 none=(S53.cs x)[3]?∧apart_ ((((enc S53.cs l).drop (j.toNat*5)).drop 1).drop 3) 0 none=(S53.cs x)[4]?:=⟨h,idx_inb h,vp_row len_S53_cs h,vp_cell0 len_S53_cs h (by decide),vp_cell (k:=1) len_S53_cs h (by decide),vp_cell (k:=2) len_S53_cs h (by decide),vp_cell (k:=3) len_S53_cs h (by decide),vp_cell (k:=4) len_S53_cs h (by decide),own_row len_S53_cs h,own_cell0 len_S53_cs h (by decide),own_cell (k:=1) len_S53_cs h (by decide),own_cell (k:=2) len_S53_cs h (by decide),own_cell (k:=3) len_S53_cs h (by decide),own_cell (k:=4) len_S53_cs h (by decide),vp_sub (k:=1) (m:=4) len_S53_cs h (by decide),own_sub (k:=1) (m:=4) len_S53_cs h (by decide),vp_sub1 (k:=1) (q:=1) (r:=2) len_S53_cs h rfl (by decide),vp_sub1 (k:=1) (q:=2) (r:=3) len_S53_cs h rfl (by decide),vp_sub1 (k:=1) (q:=3) (r:=4) len_S53_cs h rfl (by decide)⟩
def c4 (x:Bool):List AV:=[.b x]
theorem len_c4:∀ x,(c4 x).length=1:=fun _=>rfl
theorem nors_c4 (x:Bool):AV.nors (c4 x)=true:=by simp only [c4,AV.nors,AV.nor,Bool.and_self,encnors_Pl_cells,encnors_c3,encnors_S40_cs,encnors_S53_cs]
theorem one_c4 (x:Bool):(c4 x).all AV.one=true:=by simp only [c4,List.all_cons,List.all_nil,AV.one,Bool.and_self]
theorem flat_c4 (x:Bool):(c4 x).all AV.flat1=true:=by simp only [c4,List.all_cons,List.all_nil,AV.flat1,Bool.and_self]
theorem encnors_c4 (l:List Bool):AV.nors (enc c4 l)=true:=enc_nors nors_c4 l
theorem enclen_c4 (l:List Bool):(enc c4 l).length=l.length*1:=enc_len len_c4 l
theorem encone_c4 (l:List Bool):(enc c4 l).all AV.one=true:=enc_all one_c4 l
theorem encall_c4 (l:List Bool):(enc c4 l).all AV.flat1=true:=enc_all flat_c4 l
theorem flatt_c4 (x:Bool):(c4 x).all AV.flat2=true:=by simp only [c4,List.all_cons,List.all_nil,AV.flat2,Bool.and_self]
theorem encflat_c4 {q:Bool}{b:Nat}{h:AHeap}{f:Nat}(l:List Bool):frzs (frz q b h (f+1)) (enc c4 l)=some (enc c4 l):=frzs_flat2 (enc_all flatt_c4 l)
theorem enctake_c4 (l:List Bool):(enc c4 l).take l.length=enc c4 l:=by simpa only [Nat.mul_one] using enc_take len_c4 l
theorem encids_c4 {b:Nat}{l:List Nat}(m:List Bool):AV.idss b (enc c4 m) l=l:=idss_nors (encnors_c4 m)
theorem encren_c4 {b c:Nat}{l:List Nat}(m:List Bool):AV.rens b c l (enc c4 m)=some (enc c4 m):=rens_id (encnors_c4 m)
theorem encold_c4 {b:Nat}(m:List Bool):AV.olds b (enc c4 m)=true:=olds_nors (encnors_c4 m)
theorem encpart_c4 (l:List Bool)(k:Nat):(enc c4 l).take k=enc c4 (l.take k):=by simpa only [Nat.mul_one] using enc_takew len_c4 l k
theorem encdrop_c4 (l:List Bool)(k:Nat):(enc c4 l).drop k=enc c4 (l.drop k):=by simpa only [Nat.mul_one] using enc_dropw len_c4 l k
theorem pk_c4 {l:List Bool}{j:Int}{x:Bool}(h:idx l j=some x):idx l j=some x∧inb j l.length=true∧apart_ ((enc c4 l).drop j.toNat) 0 none=(c4 x)[0]?∧apart_ (enc c4 l) j.toNat none=(c4 x)[0]?:=⟨h,idx_inb h,vp_one len_c4 h,own_one len_c4 h⟩
def c9 (x:ByteArray):List AV:=[.s x]
theorem len_c9:∀ x,(c9 x).length=1:=fun _=>rfl
theorem nors_c9 (x:ByteArray):AV.nors (c9 x)=true:=by simp only [c9,AV.nors,AV.nor,Bool.and_self,encnors_Pl_cells,encnors_c3,encnors_S40_cs,encnors_S53_cs,encnors_c4]
theorem one_c9 (x:ByteArray):(c9 x).all AV.one=true:=by simp only [c9,List.all_cons,List.all_nil,AV.one,Bool.and_self]
theorem flat_c9 (x:ByteArray):(c9 x).all AV.flat1=true:=by simp only [c9,List.all_cons,List.all_nil,AV.flat1,Bool.and_self]
theorem encnors_c9 (l:List ByteArray):AV.nors (enc c9 l)=true:=enc_nors nors_c9 l
theorem enclen_c9 (l:List ByteArray):(enc c9 l).length=l.length*1:=enc_len len_c9 l
theorem encone_c9 (l:List ByteArray):(enc c9 l).all AV.one=true:=enc_all one_c9 l
theorem encall_c9 (l:List ByteArray):(enc c9 l).all AV.flat1=true:=enc_all flat_c9 l
theorem flatt_c9 (x:ByteArray):(c9 x).all AV.flat2=true:=by simp only [c9,List.all_cons,List.all_nil,AV.flat2,Bool.and_self]
theorem encflat_c9 {q:Bool}{b:Nat}{h:AHeap}{f:Nat}(l:List ByteArray):frzs (frz q b h (f+1)) (enc c9 l)=some (enc c9 l):=frzs_flat2 (enc_all flatt_c9 l)
theorem enctake_c9 (l:List ByteArray):(enc c9 l).take l.length=enc c9 l:=by simpa only [Nat.mul_one] using enc_take len_c9 l
theorem encids_c9 {b:Nat}{l:List Nat}(m:List ByteArray):AV.idss b (enc c9 m) l=l:=idss_nors (encnors_c9 m)
theorem encren_c9 {b c:Nat}{l:List Nat}(m:List ByteArray):AV.rens b c l (enc c9 m)=some (enc c9 m):=rens_id (encnors_c9 m)
theorem encold_c9 {b:Nat}(m:List ByteArray):AV.olds b (enc c9 m)=true:=olds_nors (encnors_c9 m)
theorem encpart_c9 (l:List ByteArray)(k:Nat):(enc c9 l).take k=enc c9 (l.take k):=by simpa only [Nat.mul_one] using enc_takew len_c9 l k
theorem encdrop_c9 (l:List ByteArray)(k:Nat):(enc c9 l).drop k=enc c9 (l.drop k):=by simpa only [Nat.mul_one] using enc_dropw len_c9 l k
theorem pk_c9 {l:List ByteArray}{j:Int}{x:ByteArray}(h:idx l j=some x):idx l j=some x∧inb j l.length=true∧apart_ ((enc c9 l).drop j.toNat) 0 none=(c9 x)[0]?∧apart_ (enc c9 l) j.toNat none=(c9 x)[0]?:=⟨h,idx_inb h,vp_one len_c9 h,own_one len_c9 h⟩
theorem ixo {α:Type}{l:List α}{j:Int}{p:α→Prop}(h:∀ {x},idx l j=some x→p x):(idx l j=none∧inb j l.length=false)∨∃ x,p x:=(Option.eq_none_or_eq_some (idx l j)).elim (fun e=>.inl (pkn e)) (fun ⟨x,e⟩=>.inr ⟨x,h e⟩)
theorem dex {k D:Nat}(h:k≤D):∃ E,D=E+k:=⟨D-k,by omega⟩
def EVE:=PLift.up <| And.intro @oM.eq_1 <| And.intro @oL.eq_1 <| And.intro @oJ.eq_1 <| And.intro @oF.eq_1 <| And.intro @oS.eq_1 <| And.intro @oA.eq_1 <| And.intro @oP.eq_1 <| And.intro @oE.eq_1 <| And.intro @oB.eq_1 <| And.intro @oQ.eq_1 <| And.intro @oN.eq_1 <| And.intro @oT.eq_1 <| And.intro @oU.eq_1 <| And.intro @oG.eq_1 <| And.intro @oI.eq_1 <| And.intro @oC.eq_1 <| And.intro @oX.eq_1 <| And.intro @oY.eq_1 <| And.intro @gf.eq_1 <| And.intro @gt.eq_1 <| And.intro @Pl.cells.eq_1 (And.intro @encnors_Pl_cells (And.intro @enclen_Pl_cells (And.intro @encone_Pl_cells (And.intro @encall_Pl_cells (And.intro @encflat_Pl_cells (And.intro @enctake_Pl_cells (And.intro @encids_Pl_cells (And.intro @encren_Pl_cells (And.intro @encold_Pl_cells (And.intro @encpart_Pl_cells (And.intro @c3.eq_1 (And.intro @encnors_c3 (And.intro @enclen_c3 (And.intro @encone_c3 (And.intro @encall_c3 (And.intro @encflat_c3 (And.intro @enctake_c3 (And.intro @encids_c3 (And.intro @encren_c3 (And.intro @encold_c3 (And.intro @encpart_c3 (And.intro @S40.cs.eq_1 (And.intro @encnors_S40_cs (And.intro @enclen_S40_cs (And.intro @encone_S40_cs (And.intro @encall_S40_cs (And.intro @encflat_S40_cs (And.intro @enctake_S40_cs (And.intro @encids_S40_cs (And.intro @encren_S40_cs (And.intro @encold_S40_cs (And.intro @encpart_S40_cs (And.intro @S53.cs.eq_1 (And.intro @encnors_S53_cs (And.intro @enclen_S53_cs (And.intro @encone_S53_cs (And.intro @encall_S53_cs (And.intro @encflat_S53_cs (And.intro @enctake_S53_cs (And.intro @encids_S53_cs (And.intro @encren_S53_cs (And.intro @encold_S53_cs (And.intro @encpart_S53_cs (And.intro @c4.eq_1 (And.intro @encnors_c4 (And.intro @enclen_c4 (And.intro @encone_c4 (And.intro @encall_c4 (And.intro @encflat_c4 (And.intro @enctake_c4 (And.intro @encids_c4 (And.intro @encren_c4 (And.intro @encold_c4 (And.intro @encpart_c4 (And.intro @c9.eq_1 (And.intro @encnors_c9 (And.intro @enclen_c9 (And.intro @encone_c9 (And.intro @encall_c9 (And.intro @encflat_c9 (And.intro @enctake_c9 (And.intro @encids_c9 (And.intro @encren_c9 (And.intro @encold_c9 @encpart_c9))))))))))))))))))))))))))))))))))))))))))))))))))))))))))))))))
def EVA:=PLift.up <| And.intro EV0.down <| And.intro EV1.down <| And.intro EV2.down <| And.intro EV3.down <| And.intro EV4.down <| And.intro EV5.down <| And.intro EV6.down <| And.intro EV7.down <| And.intro EVK.down <| And.intro EVF.down <| And.intro EVN.down <| And.intro EVE.down @kont_ret
theorem egate_table (D:Nat)(hD:0≤D)(F:Nat)  (q:Bool):evW 3 (OV F D) F a107 (some []) q G0 =
 match Pgate_table with|(r0,r1,r2,r3,r4,r5,r6,r7,r8,r9,r10,r11,r12,r13,r14,r15,r16,r17,r18,r19,r20,r21,r22,r23,r24,r25,r26,r27,r28,r29,r30,r31,r32,r33,r34,r35,r36,r37,r38,r39,r40,r41,r42,r43,r44,r45,r46,r47,r48,r49,r50,r51,r52,r53,r54,r55,r56,r57,r58,r59,r60,r61,r62,r63,r64,r65,r66,r67,r68,r69,r70,r71,r72,r73,r74,r75,r76,r77,r78,r79,r80,r81,r82,r83)=>some (.agg [.s r0,.i .i64 r1,.i .i64 r2,.i .i64 r3,.s r4,.i .i64 r5,.i .i64 r6,.i .i64 r7,.s r8,.i .i64 r9,.i .i64 r10,.i .i64 r11,.s r12,.i .i64 r13,.i .i64 r14,.i .i64 r15,.s r16,.i .i64 r17,.i .i64 r18,.i .i64 r19,.s r20,.i .i64 r21,.i .i64 r22,.i .i64 r23,.s r24,.i .i64 r25,.i .i64 r26,.i .i64 r27,.s r28,.i .i64 r29,.i .i64 r30,.i .i64 r31,.s r32,.i .i64 r33,.i .i64 r34,.i .i64 r35,.s r36,.i .i64 r37,.i .i64 r38,.i .i64 r39,.s r40,.i .i64 r41,.i .i64 r42,.i .i64 r43,.s r44,.i .i64 r45,.i .i64 r46,.i .i64 r47,.s r48,.i .i64 r49,.i .i64 r50,.i .i64 r51,.s r52,.i .i64 r53,.i .i64 r54,.i .i64 r55,.s r56,.i .i64 r57,.i .i64 r58,.i .i64 r59,.s r60,.i .i64 r61,.i .i64 r62,.i .i64 r63,.s r64,.i .i64 r65,.i .i64 r66,.i .i64 r67,.s r68,.i .i64 r69,.i .i64 r70,.i .i64 r71,.s r72,.i .i64 r73,.i .i64 r74,.i .i64 r75,.s r76,.i .i64 r77,.i .i64 r78,.i .i64 r79,.s r80,.i .i64 r81,.i .i64 r82,.i .i64 r83],none):=by
 rw [evW_some,G0]
 skip
 all_goals simp -implicitDefEqProofs only [*,a107,Pgate_table,EVA.down,ne_eq,seval]
theorem vgate_table {D F n:Nat}{args:List AV}{h:AHeap}:OV F (D+1) 107 args h n (n+1)=evW 3 (OV F D) F a107 (frzs (frz true 0 (bif AV.nors args then [] else h) 8) args) (AV.nors args) (hglb h 3):=evV_frozen rfl
theorem egate_of (D:Nat)(hD:1≤D)(F:Nat)(a0:Int)(q:Bool):evW 3 (OV F D) F a103 (some [.i .i64 a0]) q G0 =
 match Pgate_of a0 with|none=>none|some (r0,r1,r2,r3)=>some (.agg [.s r0,.i .i64 r1,.i .i64 r2,.i .i64 r3],none):=by
 obtain ⟨D,rfl⟩:=dex hD
 have cgate_table0:=egate_table (D) (by omega) F
 rw [evW_some,G0]
 simp only [Pgate_of]
 by_cases h1:a0<1
 rotate_left
 by_cases h2:a0>20
 rotate_left
 rcases h3:(Pgate_table) with ⟨r1,r2,r3,r4,r5,r6,r7,r8,r9,r10,r11,r12,r13,r14,r15,r16,r17,r18,r19,r20,r21,r22,r23,r24,r25,r26,r27,r28,r29,r30,r31,r32,r33,r34,r35,r36,r37,r38,r39,r40,r41,r42,r43,r44,r45,r46,r47,r48,r49,r50,r51,r52,r53,r54,r55,r56,r57,r58,r59,r60,r61,r62,r63,r64,r65,r66,r67,r68,r69,r70,r71,r72,r73,r74,r75,r76,r77,r78,r79,r80,r81,r82,r83,r84⟩
 by_cases h4:a0=0
 replace h4:=eq_true h4
 have h5:inb a0 21=true:=by rw [(of_eq_true h4)];decide
 have h6:Int.toNat a0=0:=by rw [(of_eq_true h4)];rfl
 rotate_left
 by_cases h7:a0=1
 replace h7:=eq_true h7
 have h8:inb a0 21=true:=by rw [(of_eq_true h7)];decide
 have h9:Int.toNat a0=1:=by rw [(of_eq_true h7)];rfl
 rotate_left
 by_cases h10:a0=2
 replace h10:=eq_true h10
 have h11:inb a0 21=true:=by rw [(of_eq_true h10)];decide
 have h12:Int.toNat a0=2:=by rw [(of_eq_true h10)];rfl
 rotate_left
 by_cases h13:a0=3
 replace h13:=eq_true h13
 have h14:inb a0 21=true:=by rw [(of_eq_true h13)];decide
 have h15:Int.toNat a0=3:=by rw [(of_eq_true h13)];rfl
 rotate_left
 by_cases h16:a0=4
 replace h16:=eq_true h16
 have h17:inb a0 21=true:=by rw [(of_eq_true h16)];decide
 have h18:Int.toNat a0=4:=by rw [(of_eq_true h16)];rfl
 rotate_left
 by_cases h19:a0=5
 replace h19:=eq_true h19
 have h20:inb a0 21=true:=by rw [(of_eq_true h19)];decide
 have h21:Int.toNat a0=5:=by rw [(of_eq_true h19)];rfl
 rotate_left
 by_cases h22:a0=6
 replace h22:=eq_true h22
 have h23:inb a0 21=true:=by rw [(of_eq_true h22)];decide
 have h24:Int.toNat a0=6:=by rw [(of_eq_true h22)];rfl
 rotate_left
 by_cases h25:a0=7
 replace h25:=eq_true h25
 have h26:inb a0 21=true:=by rw [(of_eq_true h25)];decide
 have h27:Int.toNat a0=7:=by rw [(of_eq_true h25)];rfl
 rotate_left
 by_cases h28:a0=8
 replace h28:=eq_true h28
 have h29:inb a0 21=true:=by rw [(of_eq_true h28)];decide
 have h30:Int.toNat a0=8:=by rw [(of_eq_true h28)];rfl
 rotate_left
 by_cases h31:a0=9
 replace h31:=eq_true h31
 have h32:inb a0 21=true:=by rw [(of_eq_true h31)];decide
 have h33:Int.toNat a0=9:=by rw [(of_eq_true h31)];rfl
 rotate_left
 by_cases h34:a0=10
 replace h34:=eq_true h34
 have h35:inb a0 21=true:=by rw [(of_eq_true h34)];decide
 have h36:Int.toNat a0=10:=by rw [(of_eq_true h34)];rfl
 rotate_left
 by_cases h37:a0=11
 replace h37:=eq_true h37
 have h38:inb a0 21=true:=by rw [(of_eq_true h37)];decide
 have h39:Int.toNat a0=11:=by rw [(of_eq_true h37)];rfl
 rotate_left
 by_cases h40:a0=12
 replace h40:=eq_true h40
 have h41:inb a0 21=true:=by rw [(of_eq_true h40)];decide
 have h42:Int.toNat a0=12:=by rw [(of_eq_true h40)];rfl
 rotate_left
 by_cases h43:a0=13
 replace h43:=eq_true h43
 have h44:inb a0 21=true:=by rw [(of_eq_true h43)];decide
 have h45:Int.toNat a0=13:=by rw [(of_eq_true h43)];rfl
 rotate_left
 by_cases h46:a0=14
 replace h46:=eq_true h46
 have h47:inb a0 21=true:=by rw [(of_eq_true h46)];decide
 have h48:Int.toNat a0=14:=by rw [(of_eq_true h46)];rfl
 rotate_left
 by_cases h49:a0=15
 replace h49:=eq_true h49
 have h50:inb a0 21=true:=by rw [(of_eq_true h49)];decide
 have h51:Int.toNat a0=15:=by rw [(of_eq_true h49)];rfl
 rotate_left
 by_cases h52:a0=16
 replace h52:=eq_true h52
 have h53:inb a0 21=true:=by rw [(of_eq_true h52)];decide
 have h54:Int.toNat a0=16:=by rw [(of_eq_true h52)];rfl
 rotate_left
 by_cases h55:a0=17
 replace h55:=eq_true h55
 have h56:inb a0 21=true:=by rw [(of_eq_true h55)];decide
 have h57:Int.toNat a0=17:=by rw [(of_eq_true h55)];rfl
 rotate_left
 by_cases h58:a0=18
 replace h58:=eq_true h58
 have h59:inb a0 21=true:=by rw [(of_eq_true h58)];decide
 have h60:Int.toNat a0=18:=by rw [(of_eq_true h58)];rfl
 rotate_left
 by_cases h61:a0=19
 replace h61:=eq_true h61
 have h62:inb a0 21=true:=by rw [(of_eq_true h61)];decide
 have h63:Int.toNat a0=19:=by rw [(of_eq_true h61)];rfl
 rotate_left
 by_cases h64:a0=20
 replace h64:=eq_true h64
 have h65:inb a0 21=true:=by rw [(of_eq_true h64)];decide
 have h66:Int.toNat a0=20:=by rw [(of_eq_true h64)];rfl
 rotate_left
 have h67:inb a0 21=false:=by simp only [inb,Bool.and_eq_false_iff,decide_eq_false_iff_not];omega
 all_goals simp -implicitDefEqProofs only [*,a103,vgate_table,EVA.down,ne_eq,seval]
theorem vgate_of {D F n:Nat}{args:List AV}{h:AHeap}:OV F (D+1) 103 args h n (n+1)=evW 3 (OV F D) F a103 (frzs (frz true 0 (bif AV.nors args then [] else h) 8) args) (AV.nors args) (hglb h 3):=evV_frozen rfl
theorem egate_Arity (D:Nat)(hD:2≤D)(F:Nat)(a0:Int)(q:Bool):evW 3 (OV F D) F a92 (some [.i .i64 a0]) q G0 =
 match Pgate_Arity a0 with|none=>none|some r0=>some (.i .i64 r0,none):=by
 obtain ⟨D,rfl⟩:=dex hD
 have cgate_of0:=egate_of (D+1) (by omega) F
 rw [evW_some,G0]
 simp only [Pgate_Arity]
 rcases h1:(Pgate_of a0) with _|⟨r1,r2,r3,r4⟩
 all_goals simp -implicitDefEqProofs only [*,a92,vgate_of,EVA.down,ne_eq,seval]
theorem vgate_Arity {D F n:Nat}{args:List AV}{h:AHeap}:OV F (D+1) 92 args h n (n+1)=evW 3 (OV F D) F a92 (frzs (frz true 0 (bif AV.nors args then [] else h) 8) args) (AV.nors args) (hglb h 3):=evV_frozen rfl
theorem lslices_Index_intL0 (D:Nat)(hD:0≤D)(F:Nat)(v0:List Int)(v1 v2:Int)(K:AE→AS→Option Res):∀ (f:Nat) (v3:Int) (s:AS),s.keep [0,1,7,8] []=some ⟨[(0,.vs v0.length .unk (enc c3 v0)),(1,.i .i64 v1),(7,.i .i64 v2),(8,.i .i64 v3)],[],[(1,tab64)],3⟩→
 evLoop (evC (OV F D) 3 F a73L0) f s K=match Pslices_Index_intL0 v0 v1 v2 f v3 with|none=>none|some (.inl y0)=>K .ret ⟨[(4,.i .i64 y0)],[],[(1,tab64)],3⟩|some (.inr _)=>K (.ex 0) ⟨[],[],[(1,tab64)],3⟩:=by
 intro f
 induction f with
 |zero=>intro v3 s hs;simp only [evLoop,Pslices_Index_intL0]
 |succ f ih=>
 intro v3 s hs
 obtain ⟨k0,hk,hn,he,hr⟩:=@lk_all (OV F (D)) 3 F a73L0 f K
 rw [loop_succ,hk,a73L0,runC_cut,hs]
 clear hs
 simp only [Pslices_Index_intL0]
 clear hk
 by_cases h1:v3<v2
 rcases ixo (@pk_c3 v0 v3) with h2|⟨x1,h2⟩
 rotate_left
 by_cases h3:v1=x1
 replace h3:=eq_true h3
 all_goals simp -implicitDefEqProofs only [*,-ih,EVA.down,ne_eq,seval]
 all_goals exact ih _ _ (by simp only [*,-ih,EVA.down,ne_eq,seval])
theorem eslices_Index_int (D:Nat)(hD:0≤D)(F:Nat)(a0:List Int)(a1:Int)(q:Bool):evW 3 (OV F D) F a73 (some [.vs a0.length .unk (enc c3 a0),.i .i64 a1]) q G0 =
 match Pslices_Index_int F a0 a1 with|none=>none|some r0=>some (.i .i64 r0,none):=by
 rw [evW_some,G0]
 simp only [Pslices_Index_int]
 simp -implicitDefEqProofs only [*,a73,runC_loop,EVA.down,ne_eq,seval]
 rw [lslices_Index_intL0 (D) (by omega) F a0 a1 (a0.length:Int) _ F 0 _ (by simp only [*,a73,EVA.down,ne_eq,seval];try rfl)]
 rcases h1:(Pslices_Index_intL0 a0 a1 (a0.length:Int) F 0) with _|(y1|_)
 all_goals simp -implicitDefEqProofs only [*,a73,EVA.down,ne_eq,seval]
theorem vslices_Index_int {D F n:Nat}{args:List AV}{h:AHeap}:OV F (D+1) 73 args h n (n+1)=evW 3 (OV F D) F a73 (frzs (frz true 0 (bif AV.nors args then [] else h) 8) args) (AV.nors args) (hglb h 3):=evV_frozen rfl
theorem eslices_Contains_int (D:Nat)(hD:1≤D)(F:Nat)(a0:List Int)(a1:Int)(q:Bool):evW 3 (OV F D) F a56 (some [.vs a0.length .unk (enc c3 a0),.i .i64 a1]) q G0 =
 match Pslices_Contains_int F a0 a1 with|none=>none|some r0=>some (.b r0,none):=by
 obtain ⟨D,rfl⟩:=dex hD
 have cslices_Index_int0:=eslices_Index_int (D) (by omega) F
 rw [evW_some,G0]
 simp only [Pslices_Contains_int]
 rcases h1:(Pslices_Index_int F a0 a1) with _|r1
 all_goals simp -implicitDefEqProofs only [*,a56,vslices_Index_int,EVA.down,ne_eq,seval]
theorem vslices_Contains_int {D F n:Nat}{args:List AV}{h:AHeap}:OV F (D+1) 56 args h n (n+1)=evW 3 (OV F D) F a56 (frzs (frz true 0 (bif AV.nors args then [] else h) 8) args) (AV.nors args) (hglb h 3):=evV_frozen rfl
theorem lgate_CheckL0 (D:Nat)(hD:2≤D)(F:Nat)(v0:List Int)(v1:Int)(v2:List Int)(v3:Int)(K:AE→AS→Option Res):∀ (f:Nat) (v4:Int) (s:AS),s.keep [1,2,17,18,19] []=some ⟨[(1,.vs v0.length .unk (enc c3 v0)),(2,.i .i64 v1),(17,.vs v2.length .unk (enc c3 v2)),(18,.i .i64 v3),(19,.i .i64 v4)],[],[(1,tab64)],3⟩→
 evLoop (evC (OV F D) 3 F a71L0) f s K=match Pgate_CheckL0 F v0 v1 v2 v3 f v4 with|none=>none|some (.inl _)=>K .ret ⟨[(6,.i .i64 (61))],[],[(1,tab64)],3⟩|some (.inr _)=>K (.ex 0) ⟨[],[],[(1,tab64)],3⟩:=by
 obtain ⟨D,rfl⟩:=dex hD
 have cslices_Contains_int0:=eslices_Contains_int (D+1) (by omega) F
 intro f
 induction f with
 |zero=>intro v4 s hs;simp only [evLoop,Pgate_CheckL0]
 |succ f ih=>
 intro v4 s hs
 obtain ⟨k0,hk,hn,he,hr⟩:=@lk_all (OV F (D+2)) 3 F a71L0 f K
 rw [loop_succ,hk,a71L0,runC_cut,hs]
 clear hs
 simp only [Pgate_CheckL0]
 clear hk
 by_cases h1:v4<v3
 rcases ixo (@pk_c3 v2 v4) with h2|⟨x1,h2⟩
 rotate_left
 by_cases h3:x1<0
 rotate_left
 by_cases h4:x1≥v1
 rotate_left
 by_cases h5:0≤v4∧v4≤(v0.length:Int)
 have h6:∀ cap x,AV.vs v4.toNat cap x=AV.vs (v0.take v4.toNat).length cap x:=by intro cap x;congr 1;simp only [List.length_take,List.length_drop];omega
 rcases h7:(Pslices_Contains_int F (v0.take v4.toNat) x1) with _|r2
 rotate_left
 rcases h8:(r2) with _|_
 all_goals simp -implicitDefEqProofs only [*,-ih,vslices_Contains_int,EVA.down,ne_eq,seval]
 all_goals exact ih _ _ (by simp only [*,-ih,vslices_Contains_int,EVA.down,ne_eq,seval])
theorem egate_Check (D:Nat)(hD:3≤D)(F:Nat)(a0:Int)(a1:List Int)(a2:Int)(q:Bool):evW 3 (OV F D) F a71 (some [.i .i64 a0,.vs a1.length .unk (enc c3 a1),.i .i64 a2]) q G0 =
 match Pgate_Check F a0 a1 a2 with|none=>none|some r0=>some (.i .i64 r0,none):=by
 obtain ⟨D,rfl⟩:=dex hD
 have cgate_Arity0:=egate_Arity (D+2) (by omega) F
 rw [evW_some,G0]
 simp only [Pgate_Check]
 rcases h1:(Pgate_Arity a0) with _|r1
 rotate_left
 by_cases h2:r1=0
 replace h2:=eq_true h2
 rotate_left
 by_cases h3:(a1.length:Int)=r1
 replace h3:=eq_true h3
 simp -implicitDefEqProofs only [*,a71,vgate_Arity,runC_loop,EVA.down,ne_eq,seval]
 rw [lgate_CheckL0 (D+3) (by omega) F a1 a2 a1 (a1.length:Int) _ F 0 _ (by simp only [*,a71,vgate_Arity,EVA.down,ne_eq,seval];try rfl)]
 rcases h4:(Pgate_CheckL0 F a1 a2 a1 (a1.length:Int) F 0) with _|(_|_)
 all_goals simp -implicitDefEqProofs only [*,a71,vgate_Arity,EVA.down,ne_eq,seval]
theorem vgate_Check {D F n:Nat}{args:List AV}{h:AHeap}:OV F (D+1) 71 args h n (n+1)=evW 3 (OV F D) F a71 (frzs (frz true 0 (bif AV.nors args then [] else h) 8) args) (AV.nors args) (hglb h 3):=evV_frozen rfl
theorem lcircuit_mayL0 (D:Nat)(hD:2≤D)(F:Nat)(v0 v1:Int)(v2:List Int)(v3 v5 v6:Int)(v7:List Int)(v8 v9 v10:Int)(K:AE→AS→Option Res):∀ (f:Nat) (v4:Int) (s:AS),s.keep [1,2,3,79,80,81] [3]=some ⟨[(1,.i .i64 v0),(2,.i .i64 v1),(3,.lp 3 0),(79,.vs v2.length .unk (enc c3 v2)),(80,.i .i64 v3),(81,.i .i64 v4)],[(3,[.i .i64 v5,.i .i64 v6,.vs v7.length .unk (enc c3 v7),.i .i64 v8,.i .i64 v9,.i .i64 v10])],[(1,tab64)],3⟩→
 evLoop (evC (OV F D) 3 F a52L0) f s K=match Pcircuit_mayL0 F v0 v1 v2 v3 v5 v6 v7 v8 v9 v10 f v4 with|none=>none|some (.inl _)=>K .ret ⟨[(6,.b false)],[],[(1,tab64)],3⟩|some (.inr _)=>K (.ex 0) ⟨[(2,.i .i64 v1),(3,.lp 3 0)],[(3,[.i .i64 v5,.i .i64 v6,.vs v7.length .unk (enc c3 v7),.i .i64 v8,.i .i64 v9,.i .i64 v10])],[(1,tab64)],3⟩:=by
 obtain ⟨D,rfl⟩:=dex hD
 have cslices_Contains_int0:=eslices_Contains_int (D+1) (by omega) F
 intro f
 induction f with
 |zero=>intro v4 s hs;simp only [evLoop,Pcircuit_mayL0]
 |succ f ih=>
 intro v4 s hs
 obtain ⟨k0,hk,hn,he,hr⟩:=@lk_all (OV F (D+2)) 3 F a52L0 f K
 rw [loop_succ,hk,a52L0,runC_cut,hs]
 clear hs
 simp only [Pcircuit_mayL0]
 clear hk
 by_cases h1:v4<v3
 rcases ixo (@pk_c3 v2 v4) with h2|⟨x1,h2⟩
 rotate_left
 by_cases h3:x1<0
 rotate_left
 by_cases h4:x1≥v0
 rotate_left
 by_cases h5:0≤v4∧v4≤(v7.length:Int)
 have h6:∀ cap x,AV.vs v4.toNat cap x=AV.vs (v7.take v4.toNat).length cap x:=by intro cap x;congr 1;simp only [List.length_take,List.length_drop];omega
 rcases h7:(Pslices_Contains_int F (v7.take v4.toNat) x1) with _|r2
 rotate_left
 rcases h8:(r2) with _|_
 all_goals simp -implicitDefEqProofs only [*,-ih,vslices_Contains_int,EVA.down,ne_eq,seval]
 all_goals exact ih _ _ (by simp only [*,-ih,vslices_Contains_int,EVA.down,ne_eq,seval])
theorem ecircuit_may (D:Nat)(hD:4≤D)(F:Nat)(a0_Kind a0_Gate:Int)(a0_Qubits:List Int)(a0_Bit a0_If a0_When a1 a2:Int)(q:Bool):evW 3 (OV F D) F a52 (some [.agg [.i .i64 a0_Kind,.i .i64 a0_Gate,.vs a0_Qubits.length .unk (enc c3 a0_Qubits),.i .i64 a0_Bit,.i .i64 a0_If,.i .i64 a0_When],.i .i64 a1,.i .i64 a2]) q G0 =
 match Pcircuit_may F a0_Kind a0_Gate a0_Qubits a0_Bit a0_If a0_When a1 a2 with|none=>none|some r0=>some (.b r0,none):=by
 obtain ⟨D,rfl⟩:=dex hD
 have cgate_Check0:=egate_Check (D+3) (by omega) F
 rw [evW_some,G0]
 simp only [Pcircuit_may]
 by_cases h1:a0_Kind=1
 replace h1:=eq_true h1
 by_cases h2:a0_If=(((-1):Int))
 replace h2:=eq_true h2
 by_cases h3:a0_If≥0
 by_cases h4:a0_If<a2
 by_cases h5:a0_When=0
 replace h5:=eq_true h5
 rcases h6:(Pgate_Check F a0_Gate a0_Qubits a1) with _|r1
 rotate_left
 by_cases h7:r1=0
 replace h7:=eq_true h7
 by_cases h8:a0_Bit=0
 replace h8:=eq_true h8
 rotate_left
 rotate_left
 rotate_left
 rcases h9:(Pgate_Check F a0_Gate a0_Qubits a1) with _|r2
 rotate_left
 by_cases h10:r2=0
 replace h10:=eq_true h10
 by_cases h11:a0_Bit=0
 replace h11:=eq_true h11
 rotate_left
 rotate_left
 rotate_left
 rcases h12:(Pgate_Check F a0_Gate a0_Qubits a1) with _|r3
 rotate_left
 by_cases h13:r3=0
 replace h13:=eq_true h13
 by_cases h14:a0_Bit=0
 replace h14:=eq_true h14
 by_cases h15:a0_When=0
 replace h15:=eq_true h15
 rotate_left
 rotate_left
 rotate_left
 rotate_left
 rcases h16:(Pgate_Check F a0_Gate a0_Qubits a1) with _|r4
 rotate_left
 by_cases h17:r4=0
 replace h17:=eq_true h17
 by_cases h18:a0_Bit=0
 replace h18:=eq_true h18
 by_cases h19:a0_When=0
 replace h19:=eq_true h19
 rotate_left
 rotate_left
 rotate_left
 rotate_left
 by_cases h20:a0_If≥0
 by_cases h21:a0_If<a2
 by_cases h22:a0_When=0
 replace h22:=eq_true h22
 rcases h23:(Pgate_Check F a0_Gate a0_Qubits a1) with _|r5
 rotate_left
 by_cases h24:r5=0
 replace h24:=eq_true h24
 by_cases h25:a0_Bit=0
 replace h25:=eq_true h25
 rotate_left
 rotate_left
 rotate_left
 rcases h26:(Pgate_Check F a0_Gate a0_Qubits a1) with _|r6
 rotate_left
 by_cases h27:r6=0
 replace h27:=eq_true h27
 by_cases h28:a0_Bit=0
 replace h28:=eq_true h28
 rotate_left
 rotate_left
 rotate_left
 rcases h29:(Pgate_Check F a0_Gate a0_Qubits a1) with _|r7
 rotate_left
 by_cases h30:r7=0
 replace h30:=eq_true h30
 by_cases h31:a0_Bit=0
 replace h31:=eq_true h31
 rotate_left
 rotate_left
 rotate_left
 rcases h32:(Pgate_Check F a0_Gate a0_Qubits a1) with _|r8
 rotate_left
 by_cases h33:r8=0
 replace h33:=eq_true h33
 by_cases h34:a0_Bit=0
 replace h34:=eq_true h34
 rotate_left
 rotate_left
 rotate_left
 by_cases h35:a0_Gate=0
 replace h35:=eq_true h35
 by_cases h36:a0_If=(((-1):Int))
 replace h36:=eq_true h36
 by_cases h37:a0_When=0
 replace h37:=eq_true h37
 by_cases h38:(a0_Qubits.length:Int)=0
 replace h38:=eq_true h38
 rotate_left
 simp -implicitDefEqProofs only [*,a52,vgate_Check,runC_loop,EVA.down,ne_eq,seval]
 rw [lcircuit_mayL0 (D+4) (by omega) F a1 a2 a0_Qubits (a0_Qubits.length:Int) a0_Kind a0_Gate a0_Qubits a0_Bit a0_If a0_When _ F 0 _ (by simp only [*,a52,vgate_Check,EVA.down,ne_eq,seval];try rfl)]
 rcases h39:(Pcircuit_mayL0 F a1 a2 a0_Qubits (a0_Qubits.length:Int) a0_Kind a0_Gate a0_Qubits a0_Bit a0_If a0_When F 0) with _|(_|_)
 rotate_left
 rotate_left
 by_cases h40:a0_Kind=2
 replace h40:=eq_true h40
 by_cases h41:(a0_Qubits.length:Int)=1
 replace h41:=eq_true h41
 by_cases h42:a0_Bit≥0
 rotate_left
 rotate_left
 rotate_left
 by_cases h43:a0_Kind=3
 replace h43:=eq_true h43
 by_cases h44:(a0_Qubits.length:Int)=1
 replace h44:=eq_true h44
 rotate_left
 rotate_left
 by_cases h45:a0_Kind=4
 replace h45:=eq_true h45
 all_goals simp -implicitDefEqProofs only [*,a52,vgate_Check,EVA.down,ne_eq,seval]
theorem vcircuit_may {D F n:Nat}{args:List AV}{h:AHeap}:OV F (D+1) 52 args h n (n+1)=evW 3 (OV F D) F a52 (frzs (frz true 0 (bif AV.nors args then [] else h) 8) args) (AV.nors args) (hglb h 3):=evV_frozen rfl
theorem lcircuit_CheckL0 (D:Nat)(hD:5≤D)(F:Nat)(v0:List S40)(v1 v3 v4:Int)(v5:List S40)(K:AE→AS→Option Res):∀ (f:Nat) (v2:Int) (s:AS),s.keep [1,31,32,33] [1]=some ⟨[(1,.lp 1 0),(31,.vs v0.length .unk (enc S40.cs v0)),(32,.i .i64 v1),(33,.i .i64 v2)],[(1,[.i .i64 v3,.i .i64 v4,.vs v5.length .unk (enc S40.cs v5)])],[(1,tab64)],3⟩→
 evLoop (evC (OV F D) 3 F a33L0) f s K=match Pcircuit_CheckL0 F v0 v1 v3 v4 v5 f v2 with|none=>none|some (.inl y0)=>K .ret ⟨[(2,.i .i64 y0),(3,.i .i64 (80))],[],[(1,tab64)],3⟩|some (.inr _)=>K (.ex 0) ⟨[],[],[(1,tab64)],3⟩:=by
 obtain ⟨D,rfl⟩:=dex hD
 have ccircuit_may0:=ecircuit_may (D+4) (by omega) F
 intro f
 induction f with
 |zero=>intro v2 s hs;simp only [evLoop,Pcircuit_CheckL0]
 |succ f ih=>
 intro v2 s hs
 obtain ⟨k0,hk,hn,he,hr⟩:=@lk_all (OV F (D+5)) 3 F a33L0 f K
 rw [loop_succ,hk,a33L0,runC_cut,hs]
 clear hs
 simp only [Pcircuit_CheckL0]
 clear hk
 by_cases h1:v2<v1
 rcases ixo (@pk_S40_cs v0 v2) with h2|⟨x1,h2⟩
 rotate_left
 rcases h3:(Pcircuit_may F x1.f_Kind x1.f_Gate x1.f_Qubits x1.f_Bit x1.f_If x1.f_When v3 v4) with _|r2
 rotate_left
 rcases h4:(r2) with _|_
 all_goals simp -implicitDefEqProofs only [*,-ih,vcircuit_may,EVA.down,ne_eq,seval]
 all_goals exact ih _ _ (by simp only [*,-ih,vcircuit_may,EVA.down,ne_eq,seval])
theorem ecircuit_Check (D:Nat)(hD:5≤D)(F:Nat)(a0_Qubits a0_Bits:Int)(a0_Ops:List S40)(q:Bool):evW 3 (OV F D) F a33 (some [.agg [.i .i64 a0_Qubits,.i .i64 a0_Bits,.vs a0_Ops.length .unk (enc S40.cs a0_Ops)]]) q G0 =
 match Pcircuit_Check F a0_Qubits a0_Bits a0_Ops with|none=>none|some (r0,r1)=>some (.tup [.i .i64 r0,.i .i64 r1],none):=by
 obtain ⟨D,rfl⟩:=dex hD
 rw [evW_some,G0]
 simp only [Pcircuit_Check]
 by_cases h1:a0_Qubits<0
 rotate_left
 by_cases h2:a0_Qubits>64
 rotate_left
 by_cases h3:a0_Bits<0
 rotate_left
 by_cases h4:a0_Bits>64
 rotate_left
 by_cases h5:(a0_Ops.length:Int)>4096
 rotate_left
 simp -implicitDefEqProofs only [*,a33,runC_loop,EVA.down,ne_eq,seval]
 rw [lcircuit_CheckL0 (D+5) (by omega) F a0_Ops (a0_Ops.length:Int) a0_Qubits a0_Bits a0_Ops _ F 0 _ (by simp only [*,a33,EVA.down,ne_eq,seval];try rfl)]
 rcases h6:(Pcircuit_CheckL0 F a0_Ops (a0_Ops.length:Int) a0_Qubits a0_Bits a0_Ops F 0) with _|(y1|_)
 all_goals simp -implicitDefEqProofs only [*,a33,EVA.down,ne_eq,seval]
theorem vcircuit_Check {D F n:Nat}{args:List AV}{h:AHeap}:OV F (D+1) 33 args h n (n+1)=evW 3 (OV F D) F a33 (frzs (frz true 0 (bif AV.nors args then [] else h) 8) args) (AV.nors args) (hglb h 3):=evV_frozen rfl
theorem epauli_Check (D:Nat)(hD:0≤D)(F:Nat)(a0_N:Int)(a0_X a0_Z:BitVec 64)(a0_Phase:Int)(q:Bool):evW 3 (OV F D) F a34 (some [.agg [.i .i64 a0_N,.i .u64 (U a0_X),.i .u64 (U a0_Z),.i .i64 a0_Phase]]) q G0 =
 some (.i .i64 ((Ppauli_Check a0_N a0_X a0_Z a0_Phase)),none):=by
 rw [evW_some,G0]
 simp only [Ppauli_Check]
 by_cases h1:a0_N<0
 rotate_left
 by_cases h2:a0_N>64
 rotate_left
 by_cases h3:a0_Phase<0
 rotate_left
 by_cases h4:a0_Phase>3
 rotate_left
 by_cases h5:a0_N<64
 by_cases h6:((a0_X ||| a0_Z) >>> a0_N.toNat)=0#64
 replace h6:=eq_true h6
 all_goals simp -implicitDefEqProofs only [*,a34,EVA.down,ne_eq,seval]
theorem vpauli_Check {D F n:Nat}{args:List AV}{h:AHeap}:OV F (D+1) 34 args h n (n+1)=evW 3 (OV F D) F a34 (frzs (frz true 0 (bif AV.nors args then [] else h) 8) args) (AV.nors args) (hglb h 3):=evV_frozen rfl
theorem lnoise_CheckL0 (D:Nat)(hD:1≤D)(F:Nat)(v1:List S53)(v2 v4 v5:Int)(v6:List S40)(K:AE→AS→Option Res):∀ (f:Nat) (v0 v3:Int) (s:AS),s.keep [2,7,18,19,20] [2]=some ⟨[(2,.lp 2 0),(7,.i .i64 v0),(18,.vs v1.length .unk (enc S53.cs v1)),(19,.i .i64 v2),(20,.i .i64 v3)],[(2,[.i .i64 v4,.i .i64 v5,.vs v6.length .unk (enc S40.cs v6)])],[(1,tab64)],3⟩→
 evLoop (evC (OV F D) 3 F a13L0) f s K=match Pnoise_CheckL0 v1 v2 v4 v5 v6 f v0 v3 with|none=>none|some (.inl _)=>K .ret ⟨[(4,.i .i64 (240))],[],[(1,tab64)],3⟩|some (.inr _)=>K (.ex 0) ⟨[],[],[(1,tab64)],3⟩:=by
 obtain ⟨D,rfl⟩:=dex hD
 have cpauli_Check0:=epauli_Check (D) (by omega) F
 intro f
 induction f with
 |zero=>intro v0 v3 s hs;simp only [evLoop,Pnoise_CheckL0]
 |succ f ih=>
 intro v0 v3 s hs
 obtain ⟨k0,hk,hn,he,hr⟩:=@lk_all (OV F (D+1)) 3 F a13L0 f K
 rw [loop_succ,hk,a13L0,runC_cut,hs]
 clear hs
 simp only [Pnoise_CheckL0]
 clear hk
 by_cases h1:v3<v2
 rcases ixo (@pk_S53_cs v1 v3) with h2|⟨x1,h2⟩
 rotate_left
 by_cases h3:x1.f_After<v0
 rotate_left
 by_cases h4:x1.f_After>(v6.length:Int)
 rotate_left
 by_cases h5:(Ppauli_Check x1.f_P_N x1.f_P_X x1.f_P_Z x1.f_P_Phase)=0
 replace h5:=eq_true h5
 by_cases h6:x1.f_P_N=v4
 replace h6:=eq_true h6
 all_goals simp -implicitDefEqProofs only [*,-ih,vpauli_Check,EVA.down,ne_eq,seval]
 all_goals exact ih _ _ _ (by simp only [*,-ih,vpauli_Check,EVA.down,ne_eq,seval])
theorem enoise_Check (D:Nat)(hD:6≤D)(F:Nat)(a0_Qubits a0_Bits:Int)(a0_Ops:List S40)(a1:List S53)(q:Bool):evW 3 (OV F D) F a13 (some [.agg [.i .i64 a0_Qubits,.i .i64 a0_Bits,.vs a0_Ops.length .unk (enc S40.cs a0_Ops)],.vs a1.length .unk (enc S53.cs a1)]) q G0 =
 match Pnoise_Check F a0_Qubits a0_Bits a0_Ops a1 with|none=>none|some r0=>some (.i .i64 r0,none):=by
 obtain ⟨D,rfl⟩:=dex hD
 have ccircuit_Check0:=ecircuit_Check (D+5) (by omega) F
 rw [evW_some,G0]
 simp only [Pnoise_Check]
 rcases h1:(Pcircuit_Check F a0_Qubits a0_Bits a0_Ops) with _|⟨r1,r2⟩
 rotate_left
 by_cases h2:r2=0
 replace h2:=eq_true h2
 simp -implicitDefEqProofs only [*,a13,vcircuit_Check,runC_loop,EVA.down,ne_eq,seval]
 rw [lnoise_CheckL0 (D+6) (by omega) F a1 (a1.length:Int) a0_Qubits a0_Bits a0_Ops _ F 0 0 _ (by simp only [*,a13,vcircuit_Check,EVA.down,ne_eq,seval];try rfl)]
 rcases h3:(Pnoise_CheckL0 a1 (a1.length:Int) a0_Qubits a0_Bits a0_Ops F 0 0) with _|(_|_)
 all_goals simp -implicitDefEqProofs only [*,a13,vcircuit_Check,EVA.down,ne_eq,seval]
theorem vnoise_Check {D F n:Nat}{args:List AV}{h:AHeap}:OV F (D+1) 13 args h n (n+1)=evW 3 (OV F D) F a13 (frzs (frz true 0 (bif AV.nors args then [] else h) 8) args) (AV.nors args) (hglb h 3):=evV_frozen rfl
theorem xnoise_carrier__mul {D F n fl:Nat}{args:List AV}{h:AHeap}(h1:fl≠n)(h2:fl≠n+1):OV F (D+1) 42 args h n fl=match evFn (OV F D) (flOf fl n) F a42 args h n with|some (v,h',n')=>some (v,some (h',n'))|none=>none:=evV_write rfl rfl h1 h2
theorem lnoise_CarryL0 (D:Nat)(hD:1≤D)(F:Nat)(v0 v2 v5:Int)(v6:List Bool)(K:AE→AS→Option Res):∀ (f:Nat) (v1:List S53) (v3 v4:BitVec 64) (s:AS),s.keep [0,1,2] []=some ⟨[(0,.i .i64 v0),(1,.p (some (4,0))),(2,.p (some (3,0)))],[],[(3,⟨true,false,104,1,[.p (some (5,0))]⟩),(4,⟨true,false,25,1,[.vs v1.length .unk (enc S53.cs v1)]⟩),(5,⟨true,false,106,6,[.i .i64 v2,.i .u64 (U v3),.i .u64 (U v4),.i .i64 v5,.sl (some (6,0)) v6.length (.ex (v6.length)),.sl none 0 (.ex 0)]⟩),(6,⟨true,false,4,1,enc c4 v6⟩),(1,tab64)],7⟩→
 evLoop (evC (OV F D) 3 F a41L0) f s K=match Pnoise_CarryL0 v0 v2 v5 v6 f v1 v3 v4 with|none=>none|some (y0,y1,y2)=>K (.ex 0) ⟨[],[],[(3,⟨true,false,104,1,[.p (some (5,0))]⟩),(4,⟨true,false,25,1,[.vs y0.length .unk (enc S53.cs y0)]⟩),(5,⟨true,false,106,6,[.i .i64 v2,.i .u64 (U y1),.i .u64 (U y2),.i .i64 v5,.sl (some (6,0)) v6.length (.ex (v6.length)),.sl none 0 (.ex 0)]⟩),(6,⟨true,false,4,1,enc c4 v6⟩),(1,tab64)],7⟩:=by
 obtain ⟨D,rfl⟩:=dex hD
 intro f
 induction f with
 |zero=>intro v1 v3 v4 s hs;simp only [evLoop,Pnoise_CarryL0]
 |succ f ih=>
 intro v1 v3 v4 s hs
 obtain ⟨k0,hk,hn,he,hr⟩:=@lk_all (OV F (D+1)) 3 F a41L0 f K
 rw [loop_succ,hk,a41L0,runC_cut,hs]
 clear hs
 simp only [Pnoise_CarryL0]
 clear hk
 by_cases h1:(v1.length:Int)>0
 rcases ixo (@pk_S53_cs v1 (0)) with h2|⟨x1,h2⟩
 rotate_left
 try simp only [Int.reduceToNat,Nat.reduceMul,Nat.reduceAdd,Nat.zero_mul,Nat.zero_add,List.drop_zero] at h2
 by_cases h3:x1.f_After=v0
 replace h3:=eq_true h3
 by_cases h4:1≤(v1.length:Int)
 have h5:List.take ((v1.length-1)*5) (List.drop 5 (enc S53.cs v1))=enc S53.cs ((v1.drop 1).take (v1.length-1)):=(congrArg (List.take _) (encdrop_S53_cs v1 (1))).trans (encpart_S53_cs _ _)
 have h6:∀ cap x,AV.vs (v1.length-1) cap x=AV.vs ((v1.drop 1).take (v1.length-1)).length cap x:=by intro cap x;congr 1;simp only [List.length_take,List.length_drop];omega
 all_goals simp -implicitDefEqProofs only [*,-ih,a42,xnoise_carrier__mul,EVA.down,ne_eq,seval]
 all_goals exact ih _ _ _ _ (by simp only [*,-ih,a42,xnoise_carrier__mul,EVA.down,ne_eq,seval])
theorem egate_Clifford (D:Nat)(hD:0≤D)(F:Nat)(a0:Int)(q:Bool):evW 3 (OV F D) F a63 (some [.i .i64 a0]) q G0 =
 some (.b ((Pgate_Clifford a0)),none):=by
 rw [evW_some,G0]
 simp only [Pgate_Clifford]
 by_cases h1:a0≥1
 all_goals simp -implicitDefEqProofs only [*,a63,EVA.down,ne_eq,seval]
theorem vgate_Clifford {D F n:Nat}{args:List AV}{h:AHeap}:OV F (D+1) 63 args h n (n+1)=evW 3 (OV F D) F a63 (frzs (frz true 0 (bif AV.nors args then [] else h) 8) args) (AV.nors args) (hglb h 3):=evV_frozen rfl
theorem epauli_right (D:Nat)(hD:1≤D)(F:Nat)(a0_N:Int)(a0_X a0_Z:BitVec 64)(a0_Phase:Int)(q:Bool):evW 3 (OV F D) F a69 (some [.agg [.i .i64 a0_N,.i .u64 (U a0_X),.i .u64 (U a0_Z),.i .i64 a0_Phase]]) q G0 =
 some (.b ((Ppauli_right a0_N a0_X a0_Z a0_Phase)),none):=by
 obtain ⟨D,rfl⟩:=dex hD
 have cpauli_Check0:=epauli_Check (D) (by omega) F
 rw [evW_some,G0]
 skip
 all_goals simp -implicitDefEqProofs only [*,a69,Ppauli_right,vpauli_Check,EVA.down,ne_eq,seval]
theorem vpauli_right {D F n:Nat}{args:List AV}{h:AHeap}:OV F (D+1) 69 args h n (n+1)=evW 3 (OV F D) F a69 (frzs (frz true 0 (bif AV.nors args then [] else h) 8) args) (AV.nors args) (hglb h 3):=evV_frozen rfl
theorem lpauli_ThroughL0 (D:Nat)(hD:0≤D)(F:Nat)(v0:Int)(v1 v2:List Int)(v3 v5:Int)(v6 v7:BitVec 64)(v8 v9:Int)(v10 v11:BitVec 64)(v12 v13 v16:Int)(K:AE→AS→Option Res):∀ (f:Nat) (v4:Int) (v14 v15:BitVec 64) (s:AS),s.keep [1,2,3,6,8,33,34,35] [3,6,8]=some ⟨[(1,.i .i64 v0),(2,.vs v1.length .unk (enc c3 v1)),(3,.lp 3 0),(6,.lp 6 0),(8,.lp 8 0),(33,.vs v2.length .unk (enc c3 v2)),(34,.i .i64 v3),(35,.i .i64 v4)],[(3,[.i .i64 v5,.i .u64 (U v6),.i .u64 (U v7),.i .i64 v8]),(6,[.i .i64 v9,.i .u64 (U v10),.i .u64 (U v11),.i .i64 v12]),(8,[.i .i64 v13,.i .u64 (U v14),.i .u64 (U v15),.i .i64 v16])],[(1,tab64)],3⟩→
 evLoop (evC (OV F D) 3 F a64L0) f s K=match Ppauli_ThroughL0 v0 v1 v2 v3 v5 v6 v7 v8 v9 v10 v11 v12 v13 v16 f v4 v14 v15 with|none=>none|some (y0,y1)=>K (.ex 0) ⟨[(1,.i .i64 v0),(2,.vs v1.length .unk (enc c3 v1)),(3,.lp 3 0),(6,.lp 6 0),(8,.lp 8 0)],[(3,[.i .i64 v5,.i .u64 (U v6),.i .u64 (U v7),.i .i64 v8]),(6,[.i .i64 v9,.i .u64 (U v10),.i .u64 (U v11),.i .i64 v12]),(8,[.i .i64 v13,.i .u64 (U y0),.i .u64 (U y1),.i .i64 v16])],[(1,tab64)],3⟩:=by
 intro f
 induction f with
 |zero=>intro v4 v14 v15 s hs;simp only [evLoop,Ppauli_ThroughL0]
 |succ f ih=>
 intro v4 v14 v15 s hs
 obtain ⟨k0,hk,hn,he,hr⟩:=@lk_all (OV F (D)) 3 F a64L0 f K
 rw [loop_succ,hk,a64L0,runC_cut,hs]
 clear hs
 simp only [Ppauli_ThroughL0]
 clear hk
 by_cases h1:v4<v3
 rcases ixo (@pk_c3 v2 v4) with h2|⟨x1,h2⟩
 rotate_left
 by_cases h3:x1<0
 all_goals simp -implicitDefEqProofs only [*,-ih,EVA.down,ne_eq,seval]
 all_goals exact ih _ _ _ _ (by simp only [*,-ih,EVA.down,ne_eq,seval])
theorem epauli_images (D:Nat)(hD:0≤D)(F:Nat)(a0:Int)(q:Bool):evW 3 (OV F D) F a85 (some [.i .i64 a0]) q G0 =
 match Ppauli_images a0 with|none=>none|some r0=>some (.vs r0.length .unk (enc c9 r0),none):=by
 rw [evW_some,G0]
 simp only [Ppauli_images]
 by_cases h1:a0=0
 replace h1:=eq_true h1
 have h2:inb a0 18=true:=by rw [(of_eq_true h1)];decide
 have h3:Int.toNat a0=0:=by rw [(of_eq_true h1)];rfl
 rotate_left
 by_cases h4:a0=1
 replace h4:=eq_true h4
 have h5:inb a0 18=true:=by rw [(of_eq_true h4)];decide
 have h6:Int.toNat a0=1:=by rw [(of_eq_true h4)];rfl
 rotate_left
 by_cases h7:a0=2
 replace h7:=eq_true h7
 have h8:inb a0 18=true:=by rw [(of_eq_true h7)];decide
 have h9:Int.toNat a0=2:=by rw [(of_eq_true h7)];rfl
 rotate_left
 by_cases h10:a0=3
 replace h10:=eq_true h10
 have h11:inb a0 18=true:=by rw [(of_eq_true h10)];decide
 have h12:Int.toNat a0=3:=by rw [(of_eq_true h10)];rfl
 rotate_left
 by_cases h13:a0=4
 replace h13:=eq_true h13
 have h14:inb a0 18=true:=by rw [(of_eq_true h13)];decide
 have h15:Int.toNat a0=4:=by rw [(of_eq_true h13)];rfl
 rotate_left
 by_cases h16:a0=5
 replace h16:=eq_true h16
 have h17:inb a0 18=true:=by rw [(of_eq_true h16)];decide
 have h18:Int.toNat a0=5:=by rw [(of_eq_true h16)];rfl
 rotate_left
 by_cases h19:a0=6
 replace h19:=eq_true h19
 have h20:inb a0 18=true:=by rw [(of_eq_true h19)];decide
 have h21:Int.toNat a0=6:=by rw [(of_eq_true h19)];rfl
 rotate_left
 by_cases h22:a0=7
 replace h22:=eq_true h22
 have h23:inb a0 18=true:=by rw [(of_eq_true h22)];decide
 have h24:Int.toNat a0=7:=by rw [(of_eq_true h22)];rfl
 rotate_left
 by_cases h25:a0=8
 replace h25:=eq_true h25
 have h26:inb a0 18=true:=by rw [(of_eq_true h25)];decide
 have h27:Int.toNat a0=8:=by rw [(of_eq_true h25)];rfl
 rotate_left
 by_cases h28:a0=9
 replace h28:=eq_true h28
 have h29:inb a0 18=true:=by rw [(of_eq_true h28)];decide
 have h30:Int.toNat a0=9:=by rw [(of_eq_true h28)];rfl
 rotate_left
 by_cases h31:a0=10
 replace h31:=eq_true h31
 have h32:inb a0 18=true:=by rw [(of_eq_true h31)];decide
 have h33:Int.toNat a0=10:=by rw [(of_eq_true h31)];rfl
 rotate_left
 by_cases h34:a0=11
 replace h34:=eq_true h34
 have h35:inb a0 18=true:=by rw [(of_eq_true h34)];decide
 have h36:Int.toNat a0=11:=by rw [(of_eq_true h34)];rfl
 rotate_left
 by_cases h37:a0=12
 replace h37:=eq_true h37
 have h38:inb a0 18=true:=by rw [(of_eq_true h37)];decide
 have h39:Int.toNat a0=12:=by rw [(of_eq_true h37)];rfl
 rotate_left
 by_cases h40:a0=13
 replace h40:=eq_true h40
 have h41:inb a0 18=true:=by rw [(of_eq_true h40)];decide
 have h42:Int.toNat a0=13:=by rw [(of_eq_true h40)];rfl
 rotate_left
 by_cases h43:a0=14
 replace h43:=eq_true h43
 have h44:inb a0 18=true:=by rw [(of_eq_true h43)];decide
 have h45:Int.toNat a0=14:=by rw [(of_eq_true h43)];rfl
 rotate_left
 by_cases h46:a0=15
 replace h46:=eq_true h46
 have h47:inb a0 18=true:=by rw [(of_eq_true h46)];decide
 have h48:Int.toNat a0=15:=by rw [(of_eq_true h46)];rfl
 rotate_left
 by_cases h49:a0=16
 replace h49:=eq_true h49
 have h50:inb a0 18=true:=by rw [(of_eq_true h49)];decide
 have h51:Int.toNat a0=16:=by rw [(of_eq_true h49)];rfl
 rotate_left
 by_cases h52:a0=17
 replace h52:=eq_true h52
 have h53:inb a0 18=true:=by rw [(of_eq_true h52)];decide
 have h54:Int.toNat a0=17:=by rw [(of_eq_true h52)];rfl
 rotate_left
 have h55:inb a0 18=false:=by simp only [inb,Bool.and_eq_false_iff,decide_eq_false_iff_not];omega
 all_goals simp -implicitDefEqProofs only [*,a85,EVA.down,ne_eq,seval]
theorem vpauli_images {D F n:Nat}{args:List AV}{h:AHeap}:OV F (D+1) 85 args h n (n+1)=evW 3 (OV F D) F a85 (frzs (frz true 0 (bif AV.nors args then [] else h) 8) args) (AV.nors args) (hglb h 3):=evV_frozen rfl
theorem epauli_code (D:Nat)(hD:0≤D)(F:Nat)(a0_N:Int)(a0_X a0_Z:BitVec 64)(a0_Phase a1:Int)(q:Bool):evW 3 (OV F D) F a70 (some [.agg [.i .i64 a0_N,.i .u64 (U a0_X),.i .u64 (U a0_Z),.i .i64 a0_Phase],.i .i64 a1]) q G0 =
 match Ppauli_code a0_N a0_X a0_Z a0_Phase a1 with|none=>none|some r0=>some (.i .i64 r0,none):=by
 rw [evW_some,G0]
 simp only [Ppauli_code]
 by_cases h1:a1<0
 all_goals simp -implicitDefEqProofs only [*,a70,EVA.down,ne_eq,seval]
theorem vpauli_code {D F n:Nat}{args:List AV}{h:AHeap}:OV F (D+1) 70 args h n (n+1)=evW 3 (OV F D) F a70 (frzs (frz true 0 (bif AV.nors args then [] else h) 8) args) (AV.nors args) (hglb h 3):=evV_frozen rfl
theorem estrings_IndexByte (D:Nat)(hD:0≤D)(F:Nat)(a0:ByteArray)(a1:Int)(q:Bool):evW 3 (OV F D) F a98 (some [.s a0,.i .u8 (a1)]) q G0 =
 some (.i .i64 ((Pstrings_IndexByte a0 a1)),none):=by
 rw [evW_some,G0]
 skip
 all_goals simp -implicitDefEqProofs only [*,a98,Pstrings_IndexByte,k106,EVA.down,ne_eq,seval]
theorem vstrings_IndexByte {D F n:Nat}{args:List AV}{h:AHeap}:OV F (D+1) 98 args h n (n+1)=evW 3 (OV F D) F a98 (frzs (frz true 0 (bif AV.nors args then [] else h) 8) args) (AV.nors args) (hglb h 3):=evV_frozen rfl
theorem lpauli_spreadL0 (D:Nat)(hD:1≤D)(F:Nat)(v0:ByteArray)(v1:List Int)(v2 v4:Int)(v5 v6:BitVec 64)(v7 v8 v11:Int)(K:AE→AS→Option Res):∀ (f:Nat) (v3:Int) (v9 v10:BitVec 64) (s:AS),s.keep [0,6,7,17,18,19] [6,7]=some ⟨[(0,.s v0),(6,.lp 6 0),(7,.lp 7 0),(17,.vs v1.length .unk (enc c3 v1)),(18,.i .i64 v2),(19,.i .i64 v3)],[(6,[.i .i64 v4,.i .u64 (U v5),.i .u64 (U v6),.i .i64 v7]),(7,[.i .i64 v8,.i .u64 (U v9),.i .u64 (U v10),.i .i64 v11])],[(1,tab64)],3⟩→
 evLoop (evC (OV F D) 3 F a87L0) f s K=match Ppauli_spreadL0 v0 v1 v2 v4 v5 v6 v7 v8 v11 f v3 v9 v10 with|none=>none|some (y0,y1)=>K (.ex 0) ⟨[(6,.lp 6 0),(7,.lp 7 0)],[(6,[.i .i64 v4,.i .u64 (U v5),.i .u64 (U v6),.i .i64 v7]),(7,[.i .i64 v8,.i .u64 (U y0),.i .u64 (U y1),.i .i64 v11])],[(1,tab64)],3⟩:=by
 obtain ⟨D,rfl⟩:=dex hD
 have cstrings_IndexByte0:=estrings_IndexByte (D) (by omega) F
 intro f
 induction f with
 |zero=>intro v3 v9 v10 s hs;simp only [evLoop,Ppauli_spreadL0]
 |succ f ih=>
 intro v3 v9 v10 s hs
 obtain ⟨k0,hk,hn,he,hr⟩:=@lk_all (OV F (D+1)) 3 F a87L0 f K
 rw [loop_succ,hk,a87L0,runC_cut,hs]
 clear hs
 simp only [Ppauli_spreadL0]
 clear hk
 by_cases h1:v3<v2
 rcases ixo (@pk_c3 v1 v3) with h2|⟨x1,h2⟩
 rotate_left
 rcases h3:(bidx v0 (IntKind.i64.wrap (v3+1))) with _|x2
 rotate_left
 by_cases h4:((Pstrings_IndexByte (⟨#[73,88,89,90]⟩:ByteArray) x2))=1
 replace h4:=eq_true h4
 by_cases h5:x1<0
 rotate_left
 by_cases h6:((Pstrings_IndexByte (⟨#[73,88,89,90]⟩:ByteArray) x2))≥2
 rotate_left
 rotate_left
 by_cases h7:((Pstrings_IndexByte (⟨#[73,88,89,90]⟩:ByteArray) x2))=2
 replace h7:=eq_true h7
 by_cases h8:x1<0
 rotate_left
 by_cases h9:((Pstrings_IndexByte (⟨#[73,88,89,90]⟩:ByteArray) x2))≥2
 rotate_left
 rotate_left
 by_cases h10:((Pstrings_IndexByte (⟨#[73,88,89,90]⟩:ByteArray) x2))≥2
 by_cases h11:x1<0
 all_goals simp -implicitDefEqProofs only [*,-ih,vstrings_IndexByte,EVA.down,ne_eq,seval]
 all_goals exact ih _ _ _ _ (by simp only [*,-ih,vstrings_IndexByte,EVA.down,ne_eq,seval])
theorem epauli_spread (D:Nat)(hD:1≤D)(F:Nat)(a0:ByteArray)(a1:Int)(a2:List Int)(q:Bool):evW 3 (OV F D) F a87 (some [.s a0,.i .i64 a1,.vs a2.length .unk (enc c3 a2)]) q G0 =
 match Ppauli_spread F a0 a1 a2 with|none=>none|some (r0,r1,r2,r3)=>some (.agg [.i .i64 r0,.i .u64 (U r1),.i .u64 (U r2),.i .i64 r3],none):=by
 obtain ⟨D,rfl⟩:=dex hD
 rw [evW_some,G0]
 simp only [Ppauli_spread]
 rcases h1:(bidx a0 0) with _|x1
 rotate_left
 by_cases h2:x1=45
 replace h2:=eq_true h2
 simp -implicitDefEqProofs only [*,a87,runC_loop,EVA.down,ne_eq,seval]
 rw [lpauli_spreadL0 (D+1) (by omega) F a0 a2 (a2.length:Int) 0 0#64 0#64 0 a1 2 _ F 0 0#64 0#64 _ (by simp only [*,a87,EVA.down,ne_eq,seval];try rfl)]
 rcases h3:(Ppauli_spreadL0 a0 a2 (a2.length:Int) 0 0#64 0#64 0 a1 2 F 0 0#64 0#64) with _|⟨y2,y3⟩
 rotate_left
 rotate_left
 simp -implicitDefEqProofs only [*,a87,runC_loop,EVA.down,ne_eq,seval]
 rw [lpauli_spreadL0 (D+1) (by omega) F a0 a2 (a2.length:Int) 0 0#64 0#64 0 a1 0 _ F 0 0#64 0#64 _ (by simp only [*,a87,EVA.down,ne_eq,seval];try rfl)]
 rcases h4:(Ppauli_spreadL0 a0 a2 (a2.length:Int) 0 0#64 0#64 0 a1 0 F 0 0#64 0#64) with _|⟨y4,y5⟩
 all_goals simp -implicitDefEqProofs only [*,a87,EVA.down,ne_eq,seval]
theorem vpauli_spread {D F n:Nat}{args:List AV}{h:AHeap}:OV F (D+1) 87 args h n (n+1)=evW 3 (OV F D) F a87 (frzs (frz true 0 (bif AV.nors args then [] else h) 8) args) (AV.nors args) (hglb h 3):=evV_frozen rfl
theorem ebits_TrailingZeros64 (D:Nat)(hD:0≤D)(F:Nat)(a0:BitVec 64)(q:Bool):evW 3 (OV F D) F a97 (some [.i .u64 (U a0)]) q G0 =
 match Pbits_TrailingZeros64 a0 with|none=>none|some r0=>some (.i .i64 r0,none):=by
 have u58:AV.i .u64 58=.i .u64 (U 58#64):=id rfl
 have u285870213051353865:AV.i .u64 285870213051353865=.i .u64 (U 285870213051353865#64):=id rfl
 obtain ⟨mk,hmk⟩:∃ m:BitVec 64→BitVec 64,∀ x,x*285870213051353865#64=m x:=⟨fun x=>x*285870213051353865#64,fun _=>rfl⟩
 rw [evW_some,G0]
 simp only [Pbits_TrailingZeros64,hmk]
 by_cases h1:a0=0#64
 replace h1:=eq_true h1
 rotate_left
 rcases h2:(idx zs64 (U ((mk (a0 &&& (-a0))) >>> (58:Nat)))) with _|x1
 have h2o:=tab_out h2
 rotate_left
 have h2i:=tab_inb h2
 have h2r:=tab_at h2
 all_goals simp -implicitDefEqProofs only [*,a97,EVA.down,ne_eq,seval]
theorem vbits_TrailingZeros64 {D F n:Nat}{args:List AV}{h:AHeap}:OV F (D+1) 97 args h n (n+1)=evW 3 (OV F D) F a97 (frzs (frz true 0 (bif AV.nors args then [] else h) 8) args) (AV.nors args) (hglb h 3):=evV_frozen rfl
theorem lpauli_timesL0 (D:Nat)(hD:1≤D)(F:Nat)(v2:Int)(v3 v4:BitVec 64)(v5 v6:Int)(v7 v8:BitVec 64)(v9 v10:Int)(v11 v12:BitVec 64)(v13:Int)(K:AE→AS→Option Res):∀ (f:Nat) (v0:Int) (v1:BitVec 64) (s:AS),s.keep [2,3,4,5,6] [2,3,4]=some ⟨[(2,.lp 2 0),(3,.lp 3 0),(4,.lp 4 0),(5,.i .i64 v0),(6,.i .u64 (U v1))],[(2,[.i .i64 v2,.i .u64 (U v3),.i .u64 (U v4),.i .i64 v5]),(3,[.i .i64 v6,.i .u64 (U v7),.i .u64 (U v8),.i .i64 v9]),(4,[.i .i64 v10,.i .u64 (U v11),.i .u64 (U v12),.i .i64 v13])],[(1,tab64)],3⟩→
 evLoop (evC (OV F D) 3 F a86L0) f s K=match Ppauli_timesL0 v2 v3 v4 v5 v6 v7 v8 v9 v10 v11 v12 v13 f v0 v1 with|none=>none|some (y0)=>K (.ex 0) ⟨[(2,.lp 2 0),(3,.lp 3 0),(4,.lp 4 0),(5,.i .i64 y0)],[(2,[.i .i64 v2,.i .u64 (U v3),.i .u64 (U v4),.i .i64 v5]),(3,[.i .i64 v6,.i .u64 (U v7),.i .u64 (U v8),.i .i64 v9]),(4,[.i .i64 v10,.i .u64 (U v11),.i .u64 (U v12),.i .i64 v13])],[(1,tab64)],3⟩:=by
 obtain ⟨D,rfl⟩:=dex hD
 have cpauli_code0:=epauli_code (D) (by omega) F
 have cbits_TrailingZeros640:=ebits_TrailingZeros64 (D) (by omega) F
 intro f
 induction f with
 |zero=>intro v0 v1 s hs;simp only [evLoop,Ppauli_timesL0]
 |succ f ih=>
 intro v0 v1 s hs
 obtain ⟨k0,hk,hn,he,hr⟩:=@lk_all (OV F (D+1)) 3 F a86L0 f K
 rw [loop_succ,hk,a86L0,runC_cut,hs]
 clear hs
 simp only [Ppauli_timesL0]
 clear hk
 by_cases h1:v1=0#64
 replace h1:=eq_true h1
 rotate_left
 rcases h2:(Pbits_TrailingZeros64 v1) with _|r1
 rotate_left
 rcases h3:(Ppauli_code v6 v7 v8 v9 r1) with _|r2
 rotate_left
 rcases h4:(Ppauli_code v2 v3 v4 v5 r1) with _|r3
 rotate_left
 by_cases h5:((IntKind.i64.wrap ((IntKind.i64.wrap (r2-r3))+3)).tmod 3)=1
 replace h5:=eq_true h5
 rotate_left
 by_cases h6:((IntKind.i64.wrap ((IntKind.i64.wrap (r2-r3))+3)).tmod 3)=2
 replace h6:=eq_true h6
 all_goals simp -implicitDefEqProofs only [*,-ih,vpauli_code,vbits_TrailingZeros64,EVA.down,ne_eq,seval]
 all_goals exact ih _ _ _ (by simp only [*,-ih,vpauli_code,vbits_TrailingZeros64,EVA.down,ne_eq,seval])
theorem epauli_times (D:Nat)(hD:1≤D)(F:Nat)(a0_N:Int)(a0_X a0_Z:BitVec 64)(a0_Phase a1_N:Int)(a1_X a1_Z:BitVec 64)(a1_Phase:Int)(q:Bool):evW 3 (OV F D) F a86 (some [.agg [.i .i64 a0_N,.i .u64 (U a0_X),.i .u64 (U a0_Z),.i .i64 a0_Phase],.agg [.i .i64 a1_N,.i .u64 (U a1_X),.i .u64 (U a1_Z),.i .i64 a1_Phase]]) q G0 =
 match Ppauli_times F a0_N a0_X a0_Z a0_Phase a1_N a1_X a1_Z a1_Phase with|none=>none|some (r0,r1,r2,r3)=>some (.agg [.i .i64 r0,.i .u64 (U r1),.i .u64 (U r2),.i .i64 r3],none):=by
 obtain ⟨D,rfl⟩:=dex hD
 rw [evW_some,G0]
 simp only [Ppauli_times]
 simp -implicitDefEqProofs only [*,a86,runC_loop,EVA.down,ne_eq,seval]
 rw [lpauli_timesL0 (D+1) (by omega) F a0_N a0_X a0_Z a0_Phase a1_N a1_X a1_Z a1_Phase 0 0#64 0#64 0 _ F (IntKind.i64.wrap (a0_Phase+a1_Phase)) ((a0_X ||| a0_Z) &&& (a1_X ||| a1_Z)) _ (by simp only [*,a86,EVA.down,ne_eq,seval];try rfl)]
 rcases h1:(Ppauli_timesL0 a0_N a0_X a0_Z a0_Phase a1_N a1_X a1_Z a1_Phase 0 0#64 0#64 0 F (IntKind.i64.wrap (a0_Phase+a1_Phase)) ((a0_X ||| a0_Z) &&& (a1_X ||| a1_Z))) with _|y1
 all_goals simp -implicitDefEqProofs only [*,a86,EVA.down,ne_eq,seval]
theorem vpauli_times {D F n:Nat}{args:List AV}{h:AHeap}:OV F (D+1) 86 args h n (n+1)=evW 3 (OV F D) F a86 (frzs (frz true 0 (bif AV.nors args then [] else h) 8) args) (AV.nors args) (hglb h 3):=evV_frozen rfl
theorem lpauli_ThroughL1 (D:Nat)(hD:2≤D)(F:Nat)(v0:List Int)(v1:List ByteArray)(v2:List Int)(v3 v5:Int)(v6 v7:BitVec 64)(v8 v9:Int)(v10 v11:BitVec 64)(v12:Int)(K:AE→AS→Option Res):∀ (f:Nat) (v4 v13:Int) (v14 v15:BitVec 64) (v16:Int) (s:AS),s.keep [2,3,6,8,11,54,55,56] [3,6,8]=some ⟨[(2,.vs v0.length .unk (enc c3 v0)),(3,.lp 3 0),(6,.lp 6 0),(8,.lp 8 0),(11,.vs v1.length .unk (enc c9 v1)),(54,.vs v2.length .unk (enc c3 v2)),(55,.i .i64 v3),(56,.i .i64 v4)],[(3,[.i .i64 v5,.i .u64 (U v6),.i .u64 (U v7),.i .i64 v8]),(6,[.i .i64 v9,.i .u64 (U v10),.i .u64 (U v11),.i .i64 v12]),(8,[.i .i64 v13,.i .u64 (U v14),.i .u64 (U v15),.i .i64 v16])],[(1,tab64)],3⟩→
 evLoop (evC (OV F D) 3 F a64L1) f s K=match Ppauli_ThroughL1 F v0 v1 v2 v3 v5 v6 v7 v8 v9 v10 v11 v12 f v4 v13 v14 v15 v16 with|none=>none|some (y0,y1,y2,y3)=>K (.ex 2) ⟨[(6,.lp 6 0),(8,.lp 8 0)],[(6,[.i .i64 v9,.i .u64 (U v10),.i .u64 (U v11),.i .i64 v12]),(8,[.i .i64 y0,.i .u64 (U y1),.i .u64 (U y2),.i .i64 y3])],[(1,tab64)],3⟩:=by
 obtain ⟨D,rfl⟩:=dex hD
 have cpauli_code0:=epauli_code (D+1) (by omega) F
 have cpauli_times0:=epauli_times (D+1) (by omega) F
 have cpauli_spread0:=epauli_spread (D+1) (by omega) F
 intro f
 induction f with
 |zero=>intro v4 v13 v14 v15 v16 s hs;simp only [evLoop,Ppauli_ThroughL1]
 |succ f ih=>
 intro v4 v13 v14 v15 v16 s hs
 obtain ⟨k0,hk,hn,he,hr⟩:=@lk_all (OV F (D+2)) 3 F a64L1 f K
 rw [loop_succ,hk,a64L1,runC_cut,hs]
 clear hs
 simp only [Ppauli_ThroughL1]
 clear hk
 by_cases h1:v4<v3
 rcases ixo (@pk_c3 v2 v4) with h2|⟨x1,h2⟩
 rotate_left
 rcases h3:(Ppauli_code v5 v6 v7 v8 x1) with _|r2
 rotate_left
 by_cases h4:r2=2
 replace h4:=eq_true h4
 by_cases h5:r2=1
 replace h5:=eq_true h5
 rcases ixo (@pk_c9 v1 (IntKind.i64.wrap (2*v4))) with h6|⟨x3,h6⟩
 rotate_left
 rcases h7:(Ppauli_spread F x3 v5 v0) with _|⟨r4,r5,r6,r7⟩
 rotate_left
 rcases h8:(Ppauli_times F v13 v14 v15 ((IntKind.i64.wrap (v16+1)).tmod 4) r4 r5 r6 r7) with _|⟨r8,r9,r10,r11⟩
 rotate_left
 by_cases h9:r2≥2
 rcases ixo (@pk_c9 v1 (IntKind.i64.wrap ((IntKind.i64.wrap (2*v4))+1))) with h10|⟨x12,h10⟩
 rotate_left
 rcases h11:(Ppauli_spread F x12 v5 v0) with _|⟨r13,r14,r15,r16⟩
 rotate_left
 rcases h12:(Ppauli_times F r8 r9 r10 r11 r13 r14 r15 r16) with _|⟨r17,r18,r19,r20⟩
 rotate_left
 rotate_left
 rotate_left
 rcases ixo (@pk_c9 v1 (IntKind.i64.wrap (2*v4))) with h13|⟨x21,h13⟩
 rotate_left
 rcases h14:(Ppauli_spread F x21 v5 v0) with _|⟨r22,r23,r24,r25⟩
 rotate_left
 rcases h15:(Ppauli_times F v13 v14 v15 ((IntKind.i64.wrap (v16+1)).tmod 4) r22 r23 r24 r25) with _|⟨r26,r27,r28,r29⟩
 rotate_left
 by_cases h16:r2≥2
 rcases ixo (@pk_c9 v1 (IntKind.i64.wrap ((IntKind.i64.wrap (2*v4))+1))) with h17|⟨x30,h17⟩
 rotate_left
 rcases h18:(Ppauli_spread F x30 v5 v0) with _|⟨r31,r32,r33,r34⟩
 rotate_left
 rcases h19:(Ppauli_times F r26 r27 r28 r29 r31 r32 r33 r34) with _|⟨r35,r36,r37,r38⟩
 rotate_left
 rotate_left
 rotate_left
 by_cases h20:r2=1
 replace h20:=eq_true h20
 rcases ixo (@pk_c9 v1 (IntKind.i64.wrap (2*v4))) with h21|⟨x39,h21⟩
 rotate_left
 rcases h22:(Ppauli_spread F x39 v5 v0) with _|⟨r40,r41,r42,r43⟩
 rotate_left
 rcases h23:(Ppauli_times F v13 v14 v15 v16 r40 r41 r42 r43) with _|⟨r44,r45,r46,r47⟩
 rotate_left
 by_cases h24:r2≥2
 rcases ixo (@pk_c9 v1 (IntKind.i64.wrap ((IntKind.i64.wrap (2*v4))+1))) with h25|⟨x48,h25⟩
 rotate_left
 rcases h26:(Ppauli_spread F x48 v5 v0) with _|⟨r49,r50,r51,r52⟩
 rotate_left
 rcases h27:(Ppauli_times F r44 r45 r46 r47 r49 r50 r51 r52) with _|⟨r53,r54,r55,r56⟩
 rotate_left
 rotate_left
 rotate_left
 by_cases h28:r2≥2
 rcases ixo (@pk_c9 v1 (IntKind.i64.wrap ((IntKind.i64.wrap (2*v4))+1))) with h29|⟨x57,h29⟩
 rotate_left
 rcases h30:(Ppauli_spread F x57 v5 v0) with _|⟨r58,r59,r60,r61⟩
 rotate_left
 rcases h31:(Ppauli_times F v13 v14 v15 v16 r58 r59 r60 r61) with _|⟨r62,r63,r64,r65⟩
 all_goals simp -implicitDefEqProofs only [*,-ih,vpauli_code,vpauli_times,vpauli_spread,EVA.down,ne_eq,seval]
 all_goals exact ih _ _ _ _ _ _ (by simp only [*,-ih,vpauli_code,vpauli_times,vpauli_spread,EVA.down,ne_eq,seval])
theorem epauli_Through (D:Nat)(hD:4≤D)(F:Nat)(a0_N:Int)(a0_X a0_Z:BitVec 64)(a0_Phase a1:Int)(a2:List Int)(q:Bool):evW 3 (OV F D) F a64 (some [.agg [.i .i64 a0_N,.i .u64 (U a0_X),.i .u64 (U a0_Z),.i .i64 a0_Phase],.i .i64 a1,.vs a2.length .unk (enc c3 a2)]) q G0 =
 match Ppauli_Through F a0_N a0_X a0_Z a0_Phase a1 a2 with|none=>none|some (r0,r1,r2,r3,r4)=>some (.tup [.agg [.i .i64 r0,.i .u64 (U r1),.i .u64 (U r2),.i .i64 r3],.i .i64 r4],none):=by
 obtain ⟨D,rfl⟩:=dex hD
 have cgate_Clifford0:=egate_Clifford (D+3) (by omega) F
 have cpauli_right0:=epauli_right (D+3) (by omega) F
 have cgate_Check0:=egate_Check (D+3) (by omega) F
 have cpauli_images0:=epauli_images (D+3) (by omega) F
 rw [evW_some,G0]
 simp only [Ppauli_Through]
 rcases h1:((Ppauli_right a0_N a0_X a0_Z a0_Phase)) with _|_
 rotate_left
 rcases h2:((Pgate_Clifford a1)) with _|_
 rotate_left
 rcases h3:(Pgate_Check F a1 a2 a0_N) with _|r1
 rotate_left
 by_cases h4:r1=0
 replace h4:=eq_true h4
 simp -implicitDefEqProofs only [*,a64,vgate_Clifford,vpauli_right,vgate_Check,vpauli_images,runC_loop,EVA.down,ne_eq,seval]
 rw [lpauli_ThroughL0 (D+4) (by omega) F a1 a2 a2 (a2.length:Int) a0_N a0_X a0_Z a0_Phase 0 0#64 0#64 0 a0_N a0_Phase _ F 0 a0_X a0_Z _ (by simp only [*,a64,vgate_Clifford,vpauli_right,vgate_Check,vpauli_images,EVA.down,ne_eq,seval];try rfl)]
 rcases h5:(Ppauli_ThroughL0 a1 a2 a2 (a2.length:Int) a0_N a0_X a0_Z a0_Phase 0 0#64 0#64 0 a0_N a0_Phase F 0 a0_X a0_Z) with _|⟨y2,y3⟩
 rotate_left
 rcases h6:(Ppauli_images a1) with _|r4
 rotate_left
 simp -implicitDefEqProofs only [*,a64,vgate_Clifford,vpauli_right,vgate_Check,vpauli_images,runC_loop,EVA.down,ne_eq,seval]
 rw [lpauli_ThroughL1 (D+4) (by omega) F a2 r4 a2 (a2.length:Int) a0_N a0_X a0_Z a0_Phase 0 0#64 0#64 0 _ F 0 a0_N y2 y3 a0_Phase _ (by simp only [*,a64,vgate_Clifford,vpauli_right,vgate_Check,vpauli_images,EVA.down,ne_eq,seval];try rfl)]
 rcases h7:(Ppauli_ThroughL1 F a2 r4 a2 (a2.length:Int) a0_N a0_X a0_Z a0_Phase 0 0#64 0#64 0 F 0 a0_N y2 y3 a0_Phase) with _|⟨y5,y6,y7,y8⟩
 all_goals simp -implicitDefEqProofs only [*,a64,vgate_Clifford,vpauli_right,vgate_Check,vpauli_images,EVA.down,ne_eq,seval]
theorem vpauli_Through {D F n:Nat}{args:List AV}{h:AHeap}:OV F (D+1) 64 args h n (n+1)=evW 3 (OV F D) F a64 (frzs (frz true 0 (bif AV.nors args then [] else h) 8) args) (AV.nors args) (hglb h 3):=evV_frozen rfl
theorem lnoise_CarryL1 (D:Nat)(hD:1≤D)(F:Nat)(v0 v2 v5:Int)(v6 v7:List Bool)(K:AE→AS→Option Res):∀ (f:Nat) (v1:List S53) (v3 v4:BitVec 64) (s:AS),s.keep [0,1,2] []=some ⟨[(0,.i .i64 v0),(1,.p (some (4,0))),(2,.p (some (3,0)))],[],[(3,⟨true,false,104,1,[.p (some (5,0))]⟩),(4,⟨true,false,25,1,[.vs v1.length .unk (enc S53.cs v1)]⟩),(5,⟨true,false,106,6,[.i .i64 v2,.i .u64 (U v3),.i .u64 (U v4),.i .i64 v5,.sl (some (6,0)) v6.length (.ex (v6.length)),.sl (some (7,0)) v7.length .op]⟩),(6,⟨true,false,4,1,enc c4 v6⟩),(7,⟨true,true,4,1,enc c4 v7⟩),(1,tab64)],8⟩→
 evLoop (evC (OV F D) 3 F a41L0) f s K=match Pnoise_CarryL1 v0 v2 v5 v6 v7 f v1 v3 v4 with|none=>none|some (y0,y1,y2)=>K (.ex 0) ⟨[],[],[(3,⟨true,false,104,1,[.p (some (5,0))]⟩),(4,⟨true,false,25,1,[.vs y0.length .unk (enc S53.cs y0)]⟩),(5,⟨true,false,106,6,[.i .i64 v2,.i .u64 (U y1),.i .u64 (U y2),.i .i64 v5,.sl (some (6,0)) v6.length (.ex (v6.length)),.sl (some (7,0)) v7.length .op]⟩),(6,⟨true,false,4,1,enc c4 v6⟩),(7,⟨true,true,4,1,enc c4 v7⟩),(1,tab64)],8⟩:=by
 obtain ⟨D,rfl⟩:=dex hD
 intro f
 induction f with
 |zero=>intro v1 v3 v4 s hs;simp only [evLoop,Pnoise_CarryL1]
 |succ f ih=>
 intro v1 v3 v4 s hs
 obtain ⟨k0,hk,hn,he,hr⟩:=@lk_all (OV F (D+1)) 3 F a41L0 f K
 rw [loop_succ,hk,a41L0,runC_cut,hs]
 clear hs
 simp only [Pnoise_CarryL1]
 clear hk
 by_cases h1:(v1.length:Int)>0
 rcases ixo (@pk_S53_cs v1 (0)) with h2|⟨x1,h2⟩
 rotate_left
 try simp only [Int.reduceToNat,Nat.reduceMul,Nat.reduceAdd,Nat.zero_mul,Nat.zero_add,List.drop_zero] at h2
 by_cases h3:x1.f_After=v0
 replace h3:=eq_true h3
 by_cases h4:1≤(v1.length:Int)
 have h5:List.take ((v1.length-1)*5) (List.drop 5 (enc S53.cs v1))=enc S53.cs ((v1.drop 1).take (v1.length-1)):=(congrArg (List.take _) (encdrop_S53_cs v1 (1))).trans (encpart_S53_cs _ _)
 have h6:∀ cap x,AV.vs (v1.length-1) cap x=AV.vs ((v1.drop 1).take (v1.length-1)).length cap x:=by intro cap x;congr 1;simp only [List.length_take,List.length_drop];omega
 all_goals simp -implicitDefEqProofs only [*,-ih,a42,xnoise_carrier__mul,EVA.down,ne_eq,seval]
 all_goals exact ih _ _ _ _ (by simp only [*,-ih,a42,xnoise_carrier__mul,EVA.down,ne_eq,seval])
theorem xnoise_Carry_1 {D F n fl:Nat}{args:List AV}{h:AHeap}(h1:fl≠n)(h2:fl≠n+1):OV F (D+1) 41 args h n fl=match evFn (OV F D) (flOf fl n) F a41 args h n with|some (v,h',n')=>some (v,some (h',n'))|none=>none:=evV_write rfl rfl h1 h2
theorem xnoise_carrier__step {D F n fl:Nat}{args:List AV}{h:AHeap}(h1:fl≠n)(h2:fl≠n+1):OV F (D+1) 43 args h n fl=match evFn (OV F D) (flOf fl n) F a43 args h n with|some (v,h',n')=>some (v,some (h',n'))|none=>none:=evV_write rfl rfl h1 h2
theorem lnoise_CarryL2 (D:Nat)(hD:6≤D)(F:Nat)(K:AE→AS→Option Res):∀ (f:Nat) (v0:List S40) (v1 v2 v3 v4:Int) (v5:List S40) (v6:Int) (v7 v8:BitVec 64) (v9:Int) (v10:List S53) (v11:Int) (v12 v13:BitVec 64) (v14:Int) (v15 v16:List Bool) (s:AS),s.keepG 3 [2,4,7,8,30,31,32] [2,4]=some ⟨[(2,.lp 2 0),(4,.lp 4 0),(7,.p (some (3,0))),(8,.fn (.func 41) [] [.p (some (4,0)),.p (some (3,0))]),(30,.vs v0.length .unk (enc S40.cs v0)),(31,.i .i64 v1),(32,.i .i64 v2)],[(2,[.i .i64 v3,.i .i64 v4,.vs v5.length .unk (enc S40.cs v5)]),(4,[.i .i64 v6,.i .u64 (U v7),.i .u64 (U v8),.i .i64 v9,.sl none 0 (.ex 0),.sl none 0 (.ex 0)])],[(3,⟨true,false,104,1,[.p (some (5,0))]⟩),(4,⟨true,false,25,1,[.vs v10.length .unk (enc S53.cs v10)]⟩),(5,⟨true,false,106,6,[.i .i64 v11,.i .u64 (U v12),.i .u64 (U v13),.i .i64 v14,.sl (some (6,0)) v15.length (.ex (v15.length)),.sl (some (7,0)) v16.length .op]⟩),(6,⟨true,false,4,1,enc c4 v15⟩),(7,⟨true,true,4,1,enc c4 v16⟩),(1,tab64)],8⟩→
 evLoop (evC (OV F D) 3 F a21L0) f s K=match Pnoise_CarryL2 F f v0 v1 v2 v3 v4 v5 v6 v7 v8 v9 v10 v11 v12 v13 v14 v15 v16 with|none=>none|some (.inl _)=>K .ret ⟨[(4,.lp 4 0),(5,.i .i64 (241))],[(4,[.i .i64 (0),.i .u64 (U (0#64)),.i .u64 (U (0#64)),.i .i64 (0),.sl none 0 (.ex 0),.sl none 0 (.ex 0)])],[(1,tab64)],3⟩|some (.inr (.inl (y0,y1,y2,y3,y4,y5,y6,y7,y8,y9,y10,y11,y12)))=>K (.ex 0) ⟨[(2,.lp 2 0),(4,.lp 4 0),(7,.p (some (3,0))),(8,.fn (.func 41) [] [.p (some (4,0)),.p (some (3,0))])],[(2,[.i .i64 y0,.i .i64 y1,.vs y2.length .unk (enc S40.cs y2)]),(4,[.i .i64 y3,.i .u64 (U y4),.i .u64 (U y5),.i .i64 y6,.sl none 0 (.ex 0),.sl none 0 (.ex 0)])],[(3,⟨true,false,104,1,[.p (some (5,0))]⟩),(4,⟨true,false,25,1,[.vs y7.length .unk (enc S53.cs y7)]⟩),(5,⟨true,false,106,6,[.i .i64 y8,.i .u64 (U y9),.i .u64 (U y10),.i .i64 y11,.sl (some (6,0)) y12.length (.ex (y12.length)),.sl none 0 (.ex 0)]⟩),(6,⟨true,false,4,1,enc c4 y12⟩),(1,tab64)],7⟩|some (.inr (.inr (y0,y1,y2,y3,y4,y5,y6,y7,y8,y9,y10,y11,y12,y13)))=>K (.ex 0) ⟨[(2,.lp 2 0),(4,.lp 4 0),(7,.p (some (3,0))),(8,.fn (.func 41) [] [.p (some (4,0)),.p (some (3,0))])],[(2,[.i .i64 y0,.i .i64 y1,.vs y2.length .unk (enc S40.cs y2)]),(4,[.i .i64 y3,.i .u64 (U y4),.i .u64 (U y5),.i .i64 y6,.sl none 0 (.ex 0),.sl none 0 (.ex 0)])],[(3,⟨true,false,104,1,[.p (some (5,0))]⟩),(4,⟨true,false,25,1,[.vs y7.length .unk (enc S53.cs y7)]⟩),(5,⟨true,false,106,6,[.i .i64 y8,.i .u64 (U y9),.i .u64 (U y10),.i .i64 y11,.sl (some (6,0)) y12.length (.ex (y12.length)),.sl (some (7,0)) y13.length .op]⟩),(6,⟨true,false,4,1,enc c4 y12⟩),(7,⟨true,true,4,1,enc c4 y13⟩),(1,tab64)],8⟩:=by
 obtain ⟨D,rfl⟩:=dex hD
 have cgate_Clifford1:=egate_Clifford (D+4) (by omega) F
 have cpauli_Through1:=epauli_Through (D+4) (by omega) F
 intro f
 induction f with
 |zero=>intro v0 v1 v2 v3 v4 v5 v6 v7 v8 v9 v10 v11 v12 v13 v14 v15 v16 s hs;simp only [evLoop,Pnoise_CarryL2]
 |succ f ih=>
 intro v0 v1 v2 v3 v4 v5 v6 v7 v8 v9 v10 v11 v12 v13 v14 v15 v16 s hs
 obtain ⟨k0,hk,hn,he,hr⟩:=@lk_all (OV F (D+6)) 3 F a21L0 f K
 rw [loop_succ,hk,a21L0,runC_cutg,hs]
 clear hs
 simp only [Pnoise_CarryL2]
 clear hk
 by_cases h1:v2<v1
 rcases ixo (@pk_S40_cs v0 v2) with h2|⟨x1,h2⟩
 rotate_left
 simp -implicitDefEqProofs only [*,-ih,vgate_Clifford,vpauli_Through,a41,xnoise_Carry_1,a42,xnoise_carrier__mul,a43,xnoise_carrier__step,runC_loop,EVA.down,ne_eq,seval]
 rw [lnoise_CarryL1 (D+5) (by omega) F v2 v11 v14 v15 v16 _ F v10 v12 v13 _ (by simp only [*,-ih,vgate_Clifford,vpauli_Through,a41,xnoise_Carry_1,a42,xnoise_carrier__mul,a43,xnoise_carrier__step,EVA.down,ne_eq,seval];try rfl)]
 rcases h3:(Pnoise_CarryL1 v2 v11 v14 v15 v16 F v10 v12 v13) with _|⟨y2,y3,y4⟩
 rotate_left
 by_cases h4:x1.f_Kind=1
 replace h4:=eq_true h4
 by_cases h5:x1.f_If≥0
 by_cases h6:x1.f_Gate>4
 rotate_left
 rcases ixo (@pk_c4 v15 x1.f_If) with h7|⟨x5,h7⟩
 rotate_left
 rcases h8:(x5) with _|_
 rotate_left
 rcases ixo (@pk_c3 x1.f_Qubits (0)) with h9|⟨x6,h9⟩
 rotate_left
 try simp only [Int.reduceToNat,Nat.reduceMul,Nat.reduceAdd,Nat.zero_mul,Nat.zero_add,List.drop_zero] at h9
 by_cases h10:x6<0
 rotate_left
 by_cases h11:x1.f_Gate=0
 replace h11:=eq_true h11
 have h12:inb x1.f_Gate 5=true:=by rw [(of_eq_true h11)];decide
 have h13:Int.toNat x1.f_Gate=0:=by rw [(of_eq_true h11)];rfl
 have h14:inb 0 2=true:=by decide
 have h15:inb 1 2=true:=by decide
 rotate_left
 by_cases h16:x1.f_Gate=1
 replace h16:=eq_true h16
 have h17:inb x1.f_Gate 5=true:=by rw [(of_eq_true h16)];decide
 have h18:Int.toNat x1.f_Gate=1:=by rw [(of_eq_true h16)];rfl
 have h19:inb 0 2=true:=by decide
 have h20:inb 1 2=true:=by decide
 rotate_left
 by_cases h21:x1.f_Gate=2
 replace h21:=eq_true h21
 have h22:inb x1.f_Gate 5=true:=by rw [(of_eq_true h21)];decide
 have h23:Int.toNat x1.f_Gate=2:=by rw [(of_eq_true h21)];rfl
 have h24:inb 0 2=true:=by decide
 have h25:inb 1 2=true:=by decide
 rotate_left
 by_cases h26:x1.f_Gate=3
 replace h26:=eq_true h26
 have h27:inb x1.f_Gate 5=true:=by rw [(of_eq_true h26)];decide
 have h28:Int.toNat x1.f_Gate=3:=by rw [(of_eq_true h26)];rfl
 have h29:inb 0 2=true:=by decide
 have h30:inb 1 2=true:=by decide
 rotate_left
 by_cases h31:x1.f_Gate=4
 replace h31:=eq_true h31
 have h32:inb x1.f_Gate 5=true:=by rw [(of_eq_true h31)];decide
 have h33:Int.toNat x1.f_Gate=4:=by rw [(of_eq_true h31)];rfl
 have h34:inb 0 2=true:=by decide
 have h35:inb 1 2=true:=by decide
 rotate_left
 have h36:inb x1.f_Gate 5=false:=by simp only [inb,Bool.and_eq_false_iff,decide_eq_false_iff_not];omega
 rotate_left
 rcases h37:((Pgate_Clifford x1.f_Gate)) with _|_
 rotate_left
 rcases h38:(Ppauli_Through F v11 y3 y4 v14 x1.f_Gate x1.f_Qubits) with _|⟨r7,r8,r9,r10,r11⟩
 rotate_left
 rotate_left
 by_cases h39:x1.f_Kind=2
 replace h39:=eq_true h39
 rcases ixo (@pk_c3 x1.f_Qubits (0)) with h40|⟨x12,h40⟩
 rotate_left
 try simp only [Int.reduceToNat,Nat.reduceMul,Nat.reduceAdd,Nat.zero_mul,Nat.zero_add,List.drop_zero] at h40
 by_cases h41:x12<0
 rotate_left
 by_cases h42:v16.length≤140737488355327
 rcases ixo (@pk_c4 v15 x1.f_Bit) with h43|⟨x13,h43⟩
 rotate_left
 have h44:x1.f_Bit.toNat+1≤v15.length:=by have:=(idx_some h43.1).2.1;omega
 have h45:splice (enc c4 v15) (x1.f_Bit.toNat) [.b (decide (((y3 >>> x12.toNat) &&& 1#64)=1#64))]=enc c4 ((v15).set x1.f_Bit.toNat (decide (((y3 >>> x12.toNat) &&& 1#64)=1#64))):=put_one len_c4 h43.1 (decide (((y3 >>> x12.toNat) &&& 1#64)=1#64))
 rotate_left
 rotate_left
 by_cases h46:x1.f_Kind=3
 replace h46:=eq_true h46
 rcases ixo (@pk_c3 x1.f_Qubits (0)) with h47|⟨x14,h47⟩
 rotate_left
 try simp only [Int.reduceToNat,Nat.reduceMul,Nat.reduceAdd,Nat.zero_mul,Nat.zero_add,List.drop_zero] at h47
 by_cases h48:x14<0
 rotate_left
 by_cases h49:v16.length≤140737488355327
 all_goals simp -implicitDefEqProofs only [*,-ih,vgate_Clifford,vpauli_Through,a41,xnoise_Carry_1,a42,xnoise_carrier__mul,a43,xnoise_carrier__step,EVA.down,ne_eq,seval]
 all_goals exact ih _ _ _ _ _ _ _ _ _ _ _ _ _ _ _ _ _ _ (by simp only [*,-ih,vgate_Clifford,vpauli_Through,a41,xnoise_Carry_1,a42,xnoise_carrier__mul,a43,xnoise_carrier__step,EVA.down,ne_eq,seval])
theorem lnoise_CarryL3 (D:Nat)(hD:6≤D)(F:Nat)(K:AE→AS→Option Res):∀ (f:Nat) (v0:List S40) (v1 v2 v3 v4:Int) (v5:List S40) (v6:Int) (v7 v8:BitVec 64) (v9:Int) (v10:List S53) (v11:Int) (v12 v13:BitVec 64) (v14:Int) (v15:List Bool) (s:AS),s.keepG 3 [2,4,7,8,30,31,32] [2,4]=some ⟨[(2,.lp 2 0),(4,.lp 4 0),(7,.p (some (3,0))),(8,.fn (.func 41) [] [.p (some (4,0)),.p (some (3,0))]),(30,.vs v0.length .unk (enc S40.cs v0)),(31,.i .i64 v1),(32,.i .i64 v2)],[(2,[.i .i64 v3,.i .i64 v4,.vs v5.length .unk (enc S40.cs v5)]),(4,[.i .i64 v6,.i .u64 (U v7),.i .u64 (U v8),.i .i64 v9,.sl none 0 (.ex 0),.sl none 0 (.ex 0)])],[(3,⟨true,false,104,1,[.p (some (5,0))]⟩),(4,⟨true,false,25,1,[.vs v10.length .unk (enc S53.cs v10)]⟩),(5,⟨true,false,106,6,[.i .i64 v11,.i .u64 (U v12),.i .u64 (U v13),.i .i64 v14,.sl (some (6,0)) v15.length (.ex (v15.length)),.sl none 0 (.ex 0)]⟩),(6,⟨true,false,4,1,enc c4 v15⟩),(1,tab64)],7⟩→
 evLoop (evC (OV F D) 3 F a21L0) f s K=match Pnoise_CarryL3 F f v0 v1 v2 v3 v4 v5 v6 v7 v8 v9 v10 v11 v12 v13 v14 v15 with|none=>none|some (.inl _)=>K .ret ⟨[(4,.lp 4 0),(5,.i .i64 (241))],[(4,[.i .i64 (0),.i .u64 (U (0#64)),.i .u64 (U (0#64)),.i .i64 (0),.sl none 0 (.ex 0),.sl none 0 (.ex 0)])],[(1,tab64)],3⟩|some (.inr (.inl (y0,y1,y2,y3,y4,y5,y6,y7,y8,y9,y10,y11,y12)))=>K (.ex 0) ⟨[(2,.lp 2 0),(4,.lp 4 0),(7,.p (some (3,0))),(8,.fn (.func 41) [] [.p (some (4,0)),.p (some (3,0))])],[(2,[.i .i64 y0,.i .i64 y1,.vs y2.length .unk (enc S40.cs y2)]),(4,[.i .i64 y3,.i .u64 (U y4),.i .u64 (U y5),.i .i64 y6,.sl none 0 (.ex 0),.sl none 0 (.ex 0)])],[(3,⟨true,false,104,1,[.p (some (5,0))]⟩),(4,⟨true,false,25,1,[.vs y7.length .unk (enc S53.cs y7)]⟩),(5,⟨true,false,106,6,[.i .i64 y8,.i .u64 (U y9),.i .u64 (U y10),.i .i64 y11,.sl (some (6,0)) y12.length (.ex (y12.length)),.sl none 0 (.ex 0)]⟩),(6,⟨true,false,4,1,enc c4 y12⟩),(1,tab64)],7⟩|some (.inr (.inr (y0,y1,y2,y3,y4,y5,y6,y7,y8,y9,y10,y11,y12,y13)))=>K (.ex 0) ⟨[(2,.lp 2 0),(4,.lp 4 0),(7,.p (some (3,0))),(8,.fn (.func 41) [] [.p (some (4,0)),.p (some (3,0))])],[(2,[.i .i64 y0,.i .i64 y1,.vs y2.length .unk (enc S40.cs y2)]),(4,[.i .i64 y3,.i .u64 (U y4),.i .u64 (U y5),.i .i64 y6,.sl none 0 (.ex 0),.sl none 0 (.ex 0)])],[(3,⟨true,false,104,1,[.p (some (5,0))]⟩),(4,⟨true,false,25,1,[.vs y7.length .unk (enc S53.cs y7)]⟩),(5,⟨true,false,106,6,[.i .i64 y8,.i .u64 (U y9),.i .u64 (U y10),.i .i64 y11,.sl (some (6,0)) y12.length (.ex (y12.length)),.sl (some (7,0)) y13.length .op]⟩),(6,⟨true,false,4,1,enc c4 y12⟩),(7,⟨true,true,4,1,enc c4 y13⟩),(1,tab64)],8⟩:=by
 obtain ⟨D,rfl⟩:=dex hD
 have cgate_Clifford1:=egate_Clifford (D+4) (by omega) F
 have cpauli_Through1:=epauli_Through (D+4) (by omega) F
 have nlnoise_CarryL2:=lnoise_CarryL2 (D+6) (by omega) F K
 intro f
 induction f with
 |zero=>intro v0 v1 v2 v3 v4 v5 v6 v7 v8 v9 v10 v11 v12 v13 v14 v15 s hs;simp only [evLoop,Pnoise_CarryL3]
 |succ f ih=>
 intro v0 v1 v2 v3 v4 v5 v6 v7 v8 v9 v10 v11 v12 v13 v14 v15 s hs
 obtain ⟨k0,hk,hn,he,hr⟩:=@lk_all (OV F (D+6)) 3 F a21L0 f K
 rw [loop_succ,hk,a21L0,runC_cutg,hs]
 clear hs
 simp only [Pnoise_CarryL3]
 clear hk
 by_cases h1:v2<v1
 rcases ixo (@pk_S40_cs v0 v2) with h2|⟨x1,h2⟩
 rotate_left
 simp -implicitDefEqProofs only [*,-ih,vgate_Clifford,vpauli_Through,a41,xnoise_Carry_1,a42,xnoise_carrier__mul,a43,xnoise_carrier__step,runC_loop,EVA.down,ne_eq,seval]
 rw [lnoise_CarryL0 (D+5) (by omega) F v2 v11 v14 v15 _ F v10 v12 v13 _ (by simp only [*,-ih,vgate_Clifford,vpauli_Through,a41,xnoise_Carry_1,a42,xnoise_carrier__mul,a43,xnoise_carrier__step,EVA.down,ne_eq,seval];try rfl)]
 rcases h3:(Pnoise_CarryL0 v2 v11 v14 v15 F v10 v12 v13) with _|⟨y2,y3,y4⟩
 rotate_left
 by_cases h4:x1.f_Kind=1
 replace h4:=eq_true h4
 by_cases h5:x1.f_If≥0
 by_cases h6:x1.f_Gate>4
 rotate_left
 rcases ixo (@pk_c4 v15 x1.f_If) with h7|⟨x5,h7⟩
 rotate_left
 rcases h8:(x5) with _|_
 rotate_left
 rcases ixo (@pk_c3 x1.f_Qubits (0)) with h9|⟨x6,h9⟩
 rotate_left
 try simp only [Int.reduceToNat,Nat.reduceMul,Nat.reduceAdd,Nat.zero_mul,Nat.zero_add,List.drop_zero] at h9
 by_cases h10:x6<0
 rotate_left
 by_cases h11:x1.f_Gate=0
 replace h11:=eq_true h11
 have h12:inb x1.f_Gate 5=true:=by rw [(of_eq_true h11)];decide
 have h13:Int.toNat x1.f_Gate=0:=by rw [(of_eq_true h11)];rfl
 have h14:inb 0 2=true:=by decide
 have h15:inb 1 2=true:=by decide
 rotate_left
 by_cases h16:x1.f_Gate=1
 replace h16:=eq_true h16
 have h17:inb x1.f_Gate 5=true:=by rw [(of_eq_true h16)];decide
 have h18:Int.toNat x1.f_Gate=1:=by rw [(of_eq_true h16)];rfl
 have h19:inb 0 2=true:=by decide
 have h20:inb 1 2=true:=by decide
 rotate_left
 by_cases h21:x1.f_Gate=2
 replace h21:=eq_true h21
 have h22:inb x1.f_Gate 5=true:=by rw [(of_eq_true h21)];decide
 have h23:Int.toNat x1.f_Gate=2:=by rw [(of_eq_true h21)];rfl
 have h24:inb 0 2=true:=by decide
 have h25:inb 1 2=true:=by decide
 rotate_left
 by_cases h26:x1.f_Gate=3
 replace h26:=eq_true h26
 have h27:inb x1.f_Gate 5=true:=by rw [(of_eq_true h26)];decide
 have h28:Int.toNat x1.f_Gate=3:=by rw [(of_eq_true h26)];rfl
 have h29:inb 0 2=true:=by decide
 have h30:inb 1 2=true:=by decide
 rotate_left
 by_cases h31:x1.f_Gate=4
 replace h31:=eq_true h31
 have h32:inb x1.f_Gate 5=true:=by rw [(of_eq_true h31)];decide
 have h33:Int.toNat x1.f_Gate=4:=by rw [(of_eq_true h31)];rfl
 have h34:inb 0 2=true:=by decide
 have h35:inb 1 2=true:=by decide
 rotate_left
 have h36:inb x1.f_Gate 5=false:=by simp only [inb,Bool.and_eq_false_iff,decide_eq_false_iff_not];omega
 rotate_left
 rcases h37:((Pgate_Clifford x1.f_Gate)) with _|_
 rotate_left
 rcases h38:(Ppauli_Through F v11 y3 y4 v14 x1.f_Gate x1.f_Qubits) with _|⟨r7,r8,r9,r10,r11⟩
 rotate_left
 rotate_left
 by_cases h39:x1.f_Kind=2
 replace h39:=eq_true h39
 rcases ixo (@pk_c3 x1.f_Qubits (0)) with h40|⟨x12,h40⟩
 rotate_left
 try simp only [Int.reduceToNat,Nat.reduceMul,Nat.reduceAdd,Nat.zero_mul,Nat.zero_add,List.drop_zero] at h40
 by_cases h41:x12<0
 rotate_left
 rcases ixo (@pk_c4 v15 x1.f_Bit) with h42|⟨x13,h42⟩
 rotate_left
 have h43:x1.f_Bit.toNat+1≤v15.length:=by have:=(idx_some h42.1).2.1;omega
 have h44:splice (enc c4 v15) (x1.f_Bit.toNat) [.b (decide (((y3 >>> x12.toNat) &&& 1#64)=1#64))]=enc c4 ((v15).set x1.f_Bit.toNat (decide (((y3 >>> x12.toNat) &&& 1#64)=1#64))):=put_one len_c4 h42.1 (decide (((y3 >>> x12.toNat) &&& 1#64)=1#64))
 rotate_left
 by_cases h45:x1.f_Kind=3
 replace h45:=eq_true h45
 rcases ixo (@pk_c3 x1.f_Qubits (0)) with h46|⟨x14,h46⟩
 rotate_left
 try simp only [Int.reduceToNat,Nat.reduceMul,Nat.reduceAdd,Nat.zero_mul,Nat.zero_add,List.drop_zero] at h46
 by_cases h47:x14<0
 all_goals simp -implicitDefEqProofs only [*,-ih,vgate_Clifford,vpauli_Through,a41,xnoise_Carry_1,a42,xnoise_carrier__mul,a43,xnoise_carrier__step,EVA.down,ne_eq,seval]
 all_goals first|exact ih _ _ _ _ _ _ _ _ _ _ _ _ _ _ _ _ _ (by simp only [*,-ih,vgate_Clifford,vpauli_Through,a41,xnoise_Carry_1,a42,xnoise_carrier__mul,a43,xnoise_carrier__step,EVA.down,ne_eq,seval])|exact nlnoise_CarryL2 f _ _ _ _ _ _ _ _ _ _ _ _ _ _ _ _ _ _ (by simp only [*,-ih,vgate_Clifford,vpauli_Through,a41,xnoise_Carry_1,a42,xnoise_carrier__mul,a43,xnoise_carrier__step,EVA.down,ne_eq,seval])
theorem lnoise_CarryL4 (D:Nat)(hD:1≤D)(F:Nat)(v0 v2 v5:Int)(v6:List Bool)(K:AE→AS→Option Res):∀ (f:Nat) (v1:List S53) (v3 v4:BitVec 64) (s:AS),s.keep [0,1,2] []=some ⟨[(0,.i .i64 v0),(1,.p (some (4,0))),(2,.p (some (3,0)))],[],[(3,⟨true,false,104,1,[.p (some (5,0))]⟩),(4,⟨true,false,25,1,[.vs v1.length .unk (enc S53.cs v1)]⟩),(5,⟨true,false,106,6,[.i .i64 v2,.i .u64 (U v3),.i .u64 (U v4),.i .i64 v5,.sl (some (6,0)) v6.length (.ex (v6.length)),.sl none 0 (.ex 0)]⟩),(6,⟨true,false,4,1,enc c4 v6⟩),(1,tab64)],7⟩→
 evLoop (evC (OV F D) 3 F a41L0) f s K=match Pnoise_CarryL4 v0 v2 v5 v6 f v1 v3 v4 with|none=>none|some (y0,y1,y2)=>K (.ex 0) ⟨[],[],[(3,⟨true,false,104,1,[.p (some (5,0))]⟩),(4,⟨true,false,25,1,[.vs y0.length .unk (enc S53.cs y0)]⟩),(5,⟨true,false,106,6,[.i .i64 v2,.i .u64 (U y1),.i .u64 (U y2),.i .i64 v5,.sl (some (6,0)) v6.length (.ex (v6.length)),.sl none 0 (.ex 0)]⟩),(6,⟨true,false,4,1,enc c4 v6⟩),(1,tab64)],7⟩:=by
 obtain ⟨D,rfl⟩:=dex hD
 intro f
 induction f with
 |zero=>intro v1 v3 v4 s hs;simp only [evLoop,Pnoise_CarryL4]
 |succ f ih=>
 intro v1 v3 v4 s hs
 obtain ⟨k0,hk,hn,he,hr⟩:=@lk_all (OV F (D+1)) 3 F a41L0 f K
 rw [loop_succ,hk,a41L0,runC_cut,hs]
 clear hs
 simp only [Pnoise_CarryL4]
 clear hk
 by_cases h1:(v1.length:Int)>0
 rcases ixo (@pk_S53_cs v1 (0)) with h2|⟨x1,h2⟩
 rotate_left
 try simp only [Int.reduceToNat,Nat.reduceMul,Nat.reduceAdd,Nat.zero_mul,Nat.zero_add,List.drop_zero] at h2
 by_cases h3:x1.f_After=v0
 replace h3:=eq_true h3
 by_cases h4:1≤(v1.length:Int)
 have h5:List.take ((v1.length-1)*5) (List.drop 5 (enc S53.cs v1))=enc S53.cs ((v1.drop 1).take (v1.length-1)):=(congrArg (List.take _) (encdrop_S53_cs v1 (1))).trans (encpart_S53_cs _ _)
 have h6:∀ cap x,AV.vs (v1.length-1) cap x=AV.vs ((v1.drop 1).take (v1.length-1)).length cap x:=by intro cap x;congr 1;simp only [List.length_take,List.length_drop];omega
 all_goals simp -implicitDefEqProofs only [*,-ih,a42,xnoise_carrier__mul,EVA.down,ne_eq,seval]
 all_goals exact ih _ _ _ _ (by simp only [*,-ih,a42,xnoise_carrier__mul,EVA.down,ne_eq,seval])
theorem lnoise_CarryL5 (D:Nat)(hD:1≤D)(F:Nat)(v0 v2 v5:Int)(v6 v7:List Bool)(K:AE→AS→Option Res):∀ (f:Nat) (v1:List S53) (v3 v4:BitVec 64) (s:AS),s.keep [0,1,2] []=some ⟨[(0,.i .i64 v0),(1,.p (some (4,0))),(2,.p (some (3,0)))],[],[(3,⟨true,false,104,1,[.p (some (5,0))]⟩),(4,⟨true,false,25,1,[.vs v1.length .unk (enc S53.cs v1)]⟩),(5,⟨true,false,106,6,[.i .i64 v2,.i .u64 (U v3),.i .u64 (U v4),.i .i64 v5,.sl (some (6,0)) v6.length (.ex (v6.length)),.sl (some (7,0)) v7.length .op]⟩),(6,⟨true,false,4,1,enc c4 v6⟩),(7,⟨true,true,4,1,enc c4 v7⟩),(1,tab64)],8⟩→
 evLoop (evC (OV F D) 3 F a41L0) f s K=match Pnoise_CarryL5 v0 v2 v5 v6 v7 f v1 v3 v4 with|none=>none|some (y0,y1,y2)=>K (.ex 0) ⟨[],[],[(3,⟨true,false,104,1,[.p (some (5,0))]⟩),(4,⟨true,false,25,1,[.vs y0.length .unk (enc S53.cs y0)]⟩),(5,⟨true,false,106,6,[.i .i64 v2,.i .u64 (U y1),.i .u64 (U y2),.i .i64 v5,.sl (some (6,0)) v6.length (.ex (v6.length)),.sl (some (7,0)) v7.length .op]⟩),(6,⟨true,false,4,1,enc c4 v6⟩),(7,⟨true,true,4,1,enc c4 v7⟩),(1,tab64)],8⟩:=by
 obtain ⟨D,rfl⟩:=dex hD
 intro f
 induction f with
 |zero=>intro v1 v3 v4 s hs;simp only [evLoop,Pnoise_CarryL5]
 |succ f ih=>
 intro v1 v3 v4 s hs
 obtain ⟨k0,hk,hn,he,hr⟩:=@lk_all (OV F (D+1)) 3 F a41L0 f K
 rw [loop_succ,hk,a41L0,runC_cut,hs]
 clear hs
 simp only [Pnoise_CarryL5]
 clear hk
 by_cases h1:(v1.length:Int)>0
 rcases ixo (@pk_S53_cs v1 (0)) with h2|⟨x1,h2⟩
 rotate_left
 try simp only [Int.reduceToNat,Nat.reduceMul,Nat.reduceAdd,Nat.zero_mul,Nat.zero_add,List.drop_zero] at h2
 by_cases h3:x1.f_After=v0
 replace h3:=eq_true h3
 by_cases h4:1≤(v1.length:Int)
 have h5:List.take ((v1.length-1)*5) (List.drop 5 (enc S53.cs v1))=enc S53.cs ((v1.drop 1).take (v1.length-1)):=(congrArg (List.take _) (encdrop_S53_cs v1 (1))).trans (encpart_S53_cs _ _)
 have h6:∀ cap x,AV.vs (v1.length-1) cap x=AV.vs ((v1.drop 1).take (v1.length-1)).length cap x:=by intro cap x;congr 1;simp only [List.length_take,List.length_drop];omega
 all_goals simp -implicitDefEqProofs only [*,-ih,a42,xnoise_carrier__mul,EVA.down,ne_eq,seval]
 all_goals exact ih _ _ _ _ (by simp only [*,-ih,a42,xnoise_carrier__mul,EVA.down,ne_eq,seval])
theorem enoise_Carry (D:Nat)(hD:7≤D)(F:Nat)(a0_Qubits a0_Bits:Int)(a0_Ops:List S40)(a1:List S53)(q:Bool):evW 3 (OV F D) F a21 (some [.agg [.i .i64 a0_Qubits,.i .i64 a0_Bits,.vs a0_Ops.length .unk (enc S40.cs a0_Ops)],.vs a1.length .unk (enc S53.cs a1)]) q G0 =
 match Pnoise_Carry F a0_Qubits a0_Bits a0_Ops a1 with|none=>none|some (r0,r1,r2,r3,r4,r5,r6)=>some (.tup [.agg [.i .i64 r0,.i .u64 (U r1),.i .u64 (U r2),.i .i64 r3,.vs r4.length .unk (enc c4 r4),.vs r5.length .unk (enc c4 r5)],.i .i64 r6],none):=by
 obtain ⟨D,rfl⟩:=dex hD
 have cnoise_Check0:=enoise_Check (D+6) (by omega) F
 rw [evW_some,G0]
 simp only [Pnoise_Carry]
 rcases h1:(Pnoise_Check F a0_Qubits a0_Bits a0_Ops a1) with _|r1
 rotate_left
 by_cases h2:r1=0
 replace h2:=eq_true h2
 rcases h3:(mkOk 1 a0_Bits a0_Bits) with _|_
 rotate_left
 have h4:(List.replicate (a0_Bits.toNat) [.b false]).flatten=enc c4 (List.replicate a0_Bits.toNat false):=enc_repl c4 _ _
 have h5:∀ i,AV.sl (some (i,0)) (a0_Bits.toNat) (.ex (a0_Bits.toNat))=AV.sl (some (i,0)) (List.replicate a0_Bits.toNat false).length (.ex (List.replicate a0_Bits.toNat false).length):=by intro i;simp only [List.length_replicate]
 simp -implicitDefEqProofs only [*,a21,vnoise_Check,a41,xnoise_Carry_1,runC_loop,EVA.down,ne_eq,seval]
 rw [lnoise_CarryL3 (D+7) (by omega) F  _ F a0_Ops (a0_Ops.length:Int) 0 a0_Qubits a0_Bits a0_Ops 0 0#64 0#64 0 a1 a0_Qubits 0#64 0#64 0 (List.replicate a0_Bits.toNat false) _ (by simp only [*,a21,vnoise_Check,a41,xnoise_Carry_1,EVA.down,ne_eq,seval];try rfl)]
 rcases h6:(Pnoise_CarryL3 F F a0_Ops (a0_Ops.length:Int) 0 a0_Qubits a0_Bits a0_Ops 0 0#64 0#64 0 a1 a0_Qubits 0#64 0#64 0 (List.replicate a0_Bits.toNat false)) with _|(_|⟨y2,y3,y4,y5,y6,y7,y8,y9,y10,y11,y12,y13,y14⟩|⟨y15,y16,y17,y18,y19,y20,y21,y22,y23,y24,y25,y26,y27,y28⟩)
 rotate_left
 rotate_left
 simp -implicitDefEqProofs only [*,a21,vnoise_Check,a41,xnoise_Carry_1,runC_loop,EVA.down,ne_eq,seval]
 rw [lnoise_CarryL4 (D+6) (by omega) F (y4.length:Int) y10 y13 y14 _ F y9 y11 y12 _ (by simp only [*,a21,vnoise_Check,a41,xnoise_Carry_1,EVA.down,ne_eq,seval];try rfl)]
 rcases h7:(Pnoise_CarryL4 (y4.length:Int) y10 y13 y14 F y9 y11 y12) with _|⟨y29,y30,y31⟩
 rotate_left
 rotate_left
 simp -implicitDefEqProofs only [*,a21,vnoise_Check,a41,xnoise_Carry_1,runC_loop,EVA.down,ne_eq,seval]
 rw [lnoise_CarryL5 (D+6) (by omega) F (y17.length:Int) y23 y26 y27 y28 _ F y22 y24 y25 _ (by simp only [*,a21,vnoise_Check,a41,xnoise_Carry_1,EVA.down,ne_eq,seval];try rfl)]
 rcases h8:(Pnoise_CarryL5 (y17.length:Int) y23 y26 y27 y28 F y22 y24 y25) with _|⟨y32,y33,y34⟩
 all_goals simp -implicitDefEqProofs only [*,a21,vnoise_Check,a41,xnoise_Carry_1,EVA.down,ne_eq,seval]
theorem vnoise_Carry {D F n:Nat}{args:List AV}{h:AHeap}:OV F (D+1) 21 args h n (n+1)=evW 3 (OV F D) F a21 (frzs (frz true 0 (bif AV.nors args then [] else h) 8) args) (AV.nors args) (hglb h 3):=evV_frozen rfl
theorem elaw24_num (D:Nat)(hD:0≤D)(F:Nat)(a0:Int)(q:Bool):evW 3 (OV F D) F a11 (some [.i .i64 a0]) q G0 =
 some (.i .i64 ((Plaw24_num a0)),none):=by
 rw [evW_some,G0]
 skip
 all_goals simp -implicitDefEqProofs (maxSteps:=4000000) only [*,a11,Plaw24_num,EVA.down,ne_eq,seval]
theorem vlaw24_num {D F n:Nat}{args:List AV}{h:AHeap}:OV F (D+1) 11 args h n (n+1)=evW 3 (OV F D) F a11 (frzs (frz true 0 (bif AV.nors args then [] else h) 8) args) (AV.nors args) (hglb h 3):=evV_frozen rfl
theorem llaw24_NoiseProductsL0 (D:Nat)(hD:0≤D)(F:Nat)(K:AE→AS→Option Res):∀ (f:Nat) (v0 v1:List S53) (v2 v3 v4 v5:Int) (v6:List S40) (v7:Int) (v8 v9:BitVec 64) (v10:Int) (v11 v12:List Bool) (v13:Int) (v14 v15:BitVec 64) (v16:Int) (v17 v18:List Bool) (v19:List S53) (s:AS),s.keepG 3 [1,2,3,7,9,11,12,13] [3,7,9]=some ⟨[(1,.vs v0.length .unk (enc S53.cs v0)),(2,.vs v1.length .unk (enc S53.cs v1)),(3,.lp 3 0),(7,.lp 7 0),(9,.lp 9 0),(11,.sl (some (3,0)) v19.length .op),(12,.i .i64 v2),(13,.i .i64 v3)],[(3,[.i .i64 v4,.i .i64 v5,.vs v6.length .unk (enc S40.cs v6)]),(7,[.i .i64 v7,.i .u64 (U v8),.i .u64 (U v9),.i .i64 v10,.vs v11.length .unk (enc c4 v11),.vs v12.length .unk (enc c4 v12)]),(9,[.i .i64 v13,.i .u64 (U v14),.i .u64 (U v15),.i .i64 v16,.vs v17.length .unk (enc c4 v17),.vs v18.length .unk (enc c4 v18)])],[(3,⟨true,true,53,5,enc S53.cs v19⟩),(1,tab64)],4⟩→
 evLoop (evC (OV F D) 3 F a6L0) f s K=match Plaw24_NoiseProductsL0 f v0 v1 v2 v3 v4 v5 v6 v7 v8 v9 v10 v11 v12 v13 v14 v15 v16 v17 v18 v19 with|none=>none|some (.inl (y0,y1,y2,y3,y4,y5,y6,y7,y8,y9,y10,y11,y12,y13,y14))=>K (.ex 0) ⟨[(3,.lp 3 0),(7,.lp 7 0),(9,.lp 9 0),(11,.sl none 0 (.ex 0))],[(3,[.i .i64 y0,.i .i64 y1,.vs y2.length .unk (enc S40.cs y2)]),(7,[.i .i64 y3,.i .u64 (U y4),.i .u64 (U y5),.i .i64 y6,.vs y7.length .unk (enc c4 y7),.vs y8.length .unk (enc c4 y8)]),(9,[.i .i64 y9,.i .u64 (U y10),.i .u64 (U y11),.i .i64 y12,.vs y13.length .unk (enc c4 y13),.vs y14.length .unk (enc c4 y14)])],[(1,tab64)],3⟩|some (.inr (y0,y1,y2,y3,y4,y5,y6,y7,y8,y9,y10,y11,y12,y13,y14,y15))=>K (.ex 0) ⟨[(3,.lp 3 0),(7,.lp 7 0),(9,.lp 9 0),(11,.sl (some (3,0)) y15.length .op)],[(3,[.i .i64 y0,.i .i64 y1,.vs y2.length .unk (enc S40.cs y2)]),(7,[.i .i64 y3,.i .u64 (U y4),.i .u64 (U y5),.i .i64 y6,.vs y7.length .unk (enc c4 y7),.vs y8.length .unk (enc c4 y8)]),(9,[.i .i64 y9,.i .u64 (U y10),.i .u64 (U y11),.i .i64 y12,.vs y13.length .unk (enc c4 y13),.vs y14.length .unk (enc c4 y14)])],[(3,⟨true,true,53,5,enc S53.cs y15⟩),(1,tab64)],4⟩:=by
 intro f
 induction f with
 |zero=>intro v0 v1 v2 v3 v4 v5 v6 v7 v8 v9 v10 v11 v12 v13 v14 v15 v16 v17 v18 v19 s hs;simp only [evLoop,Plaw24_NoiseProductsL0]
 |succ f ih=>
 intro v0 v1 v2 v3 v4 v5 v6 v7 v8 v9 v10 v11 v12 v13 v14 v15 v16 v17 v18 v19 s hs
 obtain ⟨k0,hk,hn,he,hr⟩:=@lk_all (OV F (D)) 3 F a6L0 f K
 rw [loop_succ,hk,a6L0,runC_cutg,hs]
 clear hs
 simp only [Plaw24_NoiseProductsL0]
 clear hk
 by_cases h1:v2<(v0.length:Int)
 by_cases h2:v3=(v1.length:Int)
 replace h2:=eq_true h2
 rcases ixo (@pk_S53_cs v0 v2) with h3|⟨x1,h3⟩
 rotate_left
 by_cases h4:(v19.length+1)*40≤140737488355328
 rotate_left
 rotate_left
 rcases ixo (@pk_S53_cs v0 v2) with h5|⟨x2,h5⟩
 rotate_left
 rcases ixo (@pk_S53_cs v1 v3) with h6|⟨x3,h6⟩
 rotate_left
 by_cases h7:x2.f_After≤x3.f_After
 by_cases h8:(v19.length+1)*40≤140737488355328
 rotate_left
 rotate_left
 by_cases h9:(v19.length+1)*40≤140737488355328
 rotate_left
 rotate_left
 by_cases h10:v3<(v1.length:Int)
 by_cases h11:v3=(v1.length:Int)
 replace h11:=eq_true h11
 rcases ixo (@pk_S53_cs v0 v2) with h12|⟨x4,h12⟩
 rotate_left
 by_cases h13:(v19.length+1)*40≤140737488355328
 rotate_left
 rotate_left
 rcases ixo (@pk_S53_cs v1 v3) with h14|⟨x5,h14⟩
 rotate_left
 by_cases h15:(v19.length+1)*40≤140737488355328
 all_goals simp -implicitDefEqProofs (maxSteps:=4000000) only [*,-ih,EVA.down,ne_eq,seval]
 all_goals exact ih _ _ _ _ _ _ _ _ _ _ _ _ _ _ _ _ _ _ _ _ _ (by simp only [*,-ih,EVA.down,ne_eq,seval])
theorem llaw24_NoiseProductsL1 (D:Nat)(hD:0≤D)(F:Nat)(K:AE→AS→Option Res):∀ (f:Nat) (v0 v1:List S53) (v2 v3 v4 v5:Int) (v6:List S40) (v7:Int) (v8 v9:BitVec 64) (v10:Int) (v11 v12:List Bool) (v13:Int) (v14 v15:BitVec 64) (v16:Int) (v17 v18:List Bool) (s:AS),s.keepG 3 [1,2,3,7,9,11,12,13] [3,7,9]=some ⟨[(1,.vs v0.length .unk (enc S53.cs v0)),(2,.vs v1.length .unk (enc S53.cs v1)),(3,.lp 3 0),(7,.lp 7 0),(9,.lp 9 0),(11,.sl none 0 (.ex 0)),(12,.i .i64 v2),(13,.i .i64 v3)],[(3,[.i .i64 v4,.i .i64 v5,.vs v6.length .unk (enc S40.cs v6)]),(7,[.i .i64 v7,.i .u64 (U v8),.i .u64 (U v9),.i .i64 v10,.vs v11.length .unk (enc c4 v11),.vs v12.length .unk (enc c4 v12)]),(9,[.i .i64 v13,.i .u64 (U v14),.i .u64 (U v15),.i .i64 v16,.vs v17.length .unk (enc c4 v17),.vs v18.length .unk (enc c4 v18)])],[(1,tab64)],3⟩→
 evLoop (evC (OV F D) 3 F a6L0) f s K=match Plaw24_NoiseProductsL1 f v0 v1 v2 v3 v4 v5 v6 v7 v8 v9 v10 v11 v12 v13 v14 v15 v16 v17 v18 with|none=>none|some (.inl (y0,y1,y2,y3,y4,y5,y6,y7,y8,y9,y10,y11,y12,y13,y14))=>K (.ex 0) ⟨[(3,.lp 3 0),(7,.lp 7 0),(9,.lp 9 0),(11,.sl none 0 (.ex 0))],[(3,[.i .i64 y0,.i .i64 y1,.vs y2.length .unk (enc S40.cs y2)]),(7,[.i .i64 y3,.i .u64 (U y4),.i .u64 (U y5),.i .i64 y6,.vs y7.length .unk (enc c4 y7),.vs y8.length .unk (enc c4 y8)]),(9,[.i .i64 y9,.i .u64 (U y10),.i .u64 (U y11),.i .i64 y12,.vs y13.length .unk (enc c4 y13),.vs y14.length .unk (enc c4 y14)])],[(1,tab64)],3⟩|some (.inr (y0,y1,y2,y3,y4,y5,y6,y7,y8,y9,y10,y11,y12,y13,y14,y15))=>K (.ex 0) ⟨[(3,.lp 3 0),(7,.lp 7 0),(9,.lp 9 0),(11,.sl (some (3,0)) y15.length .op)],[(3,[.i .i64 y0,.i .i64 y1,.vs y2.length .unk (enc S40.cs y2)]),(7,[.i .i64 y3,.i .u64 (U y4),.i .u64 (U y5),.i .i64 y6,.vs y7.length .unk (enc c4 y7),.vs y8.length .unk (enc c4 y8)]),(9,[.i .i64 y9,.i .u64 (U y10),.i .u64 (U y11),.i .i64 y12,.vs y13.length .unk (enc c4 y13),.vs y14.length .unk (enc c4 y14)])],[(3,⟨true,true,53,5,enc S53.cs y15⟩),(1,tab64)],4⟩:=by
 have nllaw24_NoiseProductsL0:=llaw24_NoiseProductsL0 (D) (by omega) F K
 intro f
 induction f with
 |zero=>intro v0 v1 v2 v3 v4 v5 v6 v7 v8 v9 v10 v11 v12 v13 v14 v15 v16 v17 v18 s hs;simp only [evLoop,Plaw24_NoiseProductsL1]
 |succ f ih=>
 intro v0 v1 v2 v3 v4 v5 v6 v7 v8 v9 v10 v11 v12 v13 v14 v15 v16 v17 v18 s hs
 obtain ⟨k0,hk,hn,he,hr⟩:=@lk_all (OV F (D)) 3 F a6L0 f K
 rw [loop_succ,hk,a6L0,runC_cutg,hs]
 clear hs
 simp only [Plaw24_NoiseProductsL1]
 clear hk
 by_cases h1:v2<(v0.length:Int)
 by_cases h2:v3=(v1.length:Int)
 replace h2:=eq_true h2
 rcases ixo (@pk_S53_cs v0 v2) with h3|⟨x1,h3⟩
 rotate_left
 rotate_left
 rcases ixo (@pk_S53_cs v0 v2) with h4|⟨x2,h4⟩
 rotate_left
 rcases ixo (@pk_S53_cs v1 v3) with h5|⟨x3,h5⟩
 rotate_left
 by_cases h6:x2.f_After≤x3.f_After
 rotate_left
 rotate_left
 by_cases h7:v3<(v1.length:Int)
 by_cases h8:v3=(v1.length:Int)
 replace h8:=eq_true h8
 rcases ixo (@pk_S53_cs v0 v2) with h9|⟨x4,h9⟩
 rotate_left
 rotate_left
 rcases ixo (@pk_S53_cs v1 v3) with h10|⟨x5,h10⟩
 all_goals simp -implicitDefEqProofs (maxSteps:=4000000) only [*,-ih,EVA.down,ne_eq,seval]
 all_goals exact nllaw24_NoiseProductsL0 f _ _ _ _ _ _ _ _ _ _ _ _ _ _ _ _ _ _ _ _ _ (by simp only [*,-ih,EVA.down,ne_eq,seval])
theorem llaw24_NoiseProductsL2 (D:Nat)(hD:0≤D)(F:Nat)(v1:Int)(v2 v3:BitVec 64)(v4:Int)(v5 v6:List Bool)(v7:Int)(v8 v9:BitVec 64)(v10:Int)(v11 v12:List Bool)(v13:Int)(v14 v15:BitVec 64)(v16:Int)(v17 v18:List Bool)(K:AE→AS→Option Res):∀ (f:Nat) (v0:Int) (s:AS),s.keepG 3 [7,9,14,16] [7,9,14]=some ⟨[(7,.lp 7 0),(9,.lp 9 0),(14,.lp 14 0),(16,.i .i64 v0)],[(7,[.i .i64 v1,.i .u64 (U v2),.i .u64 (U v3),.i .i64 v4,.vs v5.length .unk (enc c4 v5),.vs v6.length .unk (enc c4 v6)]),(9,[.i .i64 v7,.i .u64 (U v8),.i .u64 (U v9),.i .i64 v10,.vs v11.length .unk (enc c4 v11),.vs v12.length .unk (enc c4 v12)]),(14,[.i .i64 v13,.i .u64 (U v14),.i .u64 (U v15),.i .i64 v16,.vs v17.length .unk (enc c4 v17),.vs v18.length .unk (enc c4 v18)])],[(1,tab64)],3⟩→
 evLoop (evC (OV F D) 3 F a6L1) f s K=match Plaw24_NoiseProductsL2 v1 v2 v3 v4 v5 v6 v7 v8 v9 v10 v11 v12 v13 v14 v15 v16 v17 v18 f v0 with|none=>none|some (.inl _)=>K .ret ⟨[(6,.b false)],[],[(1,tab64)],3⟩|some (.inr _)=>K (.ex 2) ⟨[(7,.lp 7 0),(9,.lp 9 0),(14,.lp 14 0)],[(7,[.i .i64 v1,.i .u64 (U v2),.i .u64 (U v3),.i .i64 v4,.vs v5.length .unk (enc c4 v5),.vs v6.length .unk (enc c4 v6)]),(9,[.i .i64 v7,.i .u64 (U v8),.i .u64 (U v9),.i .i64 v10,.vs v11.length .unk (enc c4 v11),.vs v12.length .unk (enc c4 v12)]),(14,[.i .i64 v13,.i .u64 (U v14),.i .u64 (U v15),.i .i64 v16,.vs v17.length .unk (enc c4 v17),.vs v18.length .unk (enc c4 v18)])],[(1,tab64)],3⟩:=by
 intro f
 induction f with
 |zero=>intro v0 s hs;simp only [evLoop,Plaw24_NoiseProductsL2]
 |succ f ih=>
 intro v0 s hs
 obtain ⟨k0,hk,hn,he,hr⟩:=@lk_all (OV F (D)) 3 F a6L1 f K
 rw [loop_succ,hk,a6L1,runC_cutg,hs]
 clear hs
 simp only [Plaw24_NoiseProductsL2]
 clear hk
 by_cases h1:v0<(v17.length:Int)
 rcases ixo (@pk_c4 v17 v0) with h2|⟨x1,h2⟩
 rotate_left
 rcases ixo (@pk_c4 v5 v0) with h3|⟨x2,h3⟩
 rotate_left
 rcases ixo (@pk_c4 v11 v0) with h4|⟨x3,h4⟩
 rotate_left
 rcases h5:(x3) with _|_
 rcases h6:(x2) with _|_
 rcases h7:(x1) with _|_
 rotate_left
 rotate_left
 rcases h8:(x1) with _|_
 rotate_left
 rotate_left
 rcases h9:(x2) with _|_
 rcases h10:(x1) with _|_
 rotate_left
 rotate_left
 rcases h11:(x1) with _|_
 all_goals simp -implicitDefEqProofs (maxSteps:=4000000) only [*,-ih,EVA.down,ne_eq,seval]
 all_goals exact ih _ _ (by simp only [*,-ih,EVA.down,ne_eq,seval])
theorem llaw24_NoiseProductsL3 (D:Nat)(hD:0≤D)(F:Nat)(v1:Int)(v2 v3:BitVec 64)(v4:Int)(v5 v6:List Bool)(v7:Int)(v8 v9:BitVec 64)(v10:Int)(v11 v12:List Bool)(v13:Int)(v14 v15:BitVec 64)(v16:Int)(v17 v18:List Bool)(K:AE→AS→Option Res):∀ (f:Nat) (v0:Int) (s:AS),s.keepG 3 [7,9,14,17] [7,9,14]=some ⟨[(7,.lp 7 0),(9,.lp 9 0),(14,.lp 14 0),(17,.i .i64 v0)],[(7,[.i .i64 v1,.i .u64 (U v2),.i .u64 (U v3),.i .i64 v4,.vs v5.length .unk (enc c4 v5),.vs v6.length .unk (enc c4 v6)]),(9,[.i .i64 v7,.i .u64 (U v8),.i .u64 (U v9),.i .i64 v10,.vs v11.length .unk (enc c4 v11),.vs v12.length .unk (enc c4 v12)]),(14,[.i .i64 v13,.i .u64 (U v14),.i .u64 (U v15),.i .i64 v16,.vs v17.length .unk (enc c4 v17),.vs v18.length .unk (enc c4 v18)])],[(1,tab64)],3⟩→
 evLoop (evC (OV F D) 3 F a6L2) f s K=match Plaw24_NoiseProductsL3 v1 v2 v3 v4 v5 v6 v7 v8 v9 v10 v11 v12 v13 v14 v15 v16 v17 v18 f v0 with|none=>none|some (.inl _)=>K .ret ⟨[(6,.b false)],[],[(1,tab64)],3⟩|some (.inr _)=>K (.ex 4) ⟨[],[],[(1,tab64)],3⟩:=by
 intro f
 induction f with
 |zero=>intro v0 s hs;simp only [evLoop,Plaw24_NoiseProductsL3]
 |succ f ih=>
 intro v0 s hs
 obtain ⟨k0,hk,hn,he,hr⟩:=@lk_all (OV F (D)) 3 F a6L2 f K
 rw [loop_succ,hk,a6L2,runC_cutg,hs]
 clear hs
 simp only [Plaw24_NoiseProductsL3]
 clear hk
 by_cases h1:v0<(v18.length:Int)
 rcases ixo (@pk_c4 v18 v0) with h2|⟨x1,h2⟩
 rotate_left
 rcases ixo (@pk_c4 v6 v0) with h3|⟨x2,h3⟩
 rotate_left
 rcases ixo (@pk_c4 v12 v0) with h4|⟨x3,h4⟩
 rotate_left
 rcases h5:(x3) with _|_
 rcases h6:(x2) with _|_
 rcases h7:(x1) with _|_
 rotate_left
 rotate_left
 rcases h8:(x1) with _|_
 rotate_left
 rotate_left
 rcases h9:(x2) with _|_
 rcases h10:(x1) with _|_
 rotate_left
 rotate_left
 rcases h11:(x1) with _|_
 all_goals simp -implicitDefEqProofs (maxSteps:=4000000) only [*,-ih,EVA.down,ne_eq,seval]
 all_goals exact ih _ _ (by simp only [*,-ih,EVA.down,ne_eq,seval])
theorem elaw24_NoiseProducts (D:Nat)(hD:8≤D)(F:Nat)(a0_Qubits a0_Bits:Int)(a0_Ops:List S40)(a1 a2:List S53)(q:Bool):evW 3 (OV F D) F a6 (some [.agg [.i .i64 a0_Qubits,.i .i64 a0_Bits,.vs a0_Ops.length .unk (enc S40.cs a0_Ops)],.vs a1.length .unk (enc S53.cs a1),.vs a2.length .unk (enc S53.cs a2)]) q G0 =
 match Plaw24_NoiseProducts F a0_Qubits a0_Bits a0_Ops a1 a2 with|none=>none|some r0=>some (.b r0,none):=by
 obtain ⟨D,rfl⟩:=dex hD
 have claw24_num0:=elaw24_num (D+7) (by omega) F
 have cnoise_Carry0:=enoise_Carry (D+7) (by omega) F
 have cnoise_Carry0_3:=fun a0_Qubits a0_Bits a0_Ops=>enoise_Carry (D+7) (by omega) F a0_Qubits a0_Bits a0_Ops []
 simp only [List.length_nil,enc_nil] at cnoise_Carry0_3
 rw [evW_some,G0]
 simp only [Plaw24_NoiseProducts]
 rcases h1:(Pnoise_Carry F a0_Qubits a0_Bits a0_Ops a1) with _|⟨r1,r2,r3,r4,r5,r6,r7⟩
 rotate_left
 rcases h2:(Pnoise_Carry F a0_Qubits a0_Bits a0_Ops a2) with _|⟨r8,r9,r10,r11,r12,r13,r14⟩
 rotate_left
 by_cases h3:(Plaw24_num r7)=0
 replace h3:=eq_true h3
 by_cases h4:(Plaw24_num r14)=0
 replace h4:=eq_true h4
 simp -implicitDefEqProofs (maxSteps:=4000000) only [*,a6,vlaw24_num,vnoise_Carry,k15,runC_loop,EVA.down,ne_eq,seval]
 rw [llaw24_NoiseProductsL1 (D+8) (by omega) F  _ F a1 a2 0 0 a0_Qubits a0_Bits a0_Ops r1 r2 r3 r4 r5 r6 r8 r9 r10 r11 r12 r13 _ (by simp only [*,a6,vlaw24_num,vnoise_Carry,k15,EVA.down,ne_eq,seval];try rfl)]
 rcases h5:(Plaw24_NoiseProductsL1 F a1 a2 0 0 a0_Qubits a0_Bits a0_Ops r1 r2 r3 r4 r5 r6 r8 r9 r10 r11 r12 r13) with _|(⟨y15,y16,y17,y18,y19,y20,y21,y22,y23,y24,y25,y26,y27,y28,y29⟩|⟨y30,y31,y32,y33,y34,y35,y36,y37,y38,y39,y40,y41,y42,y43,y44,y45⟩)
 rotate_left
 rcases h6:(Pnoise_Carry F y15 y16 y17 ([])) with _|⟨r46,r47,r48,r49,r50,r51,r52⟩
 rotate_left
 by_cases h7:(Plaw24_num r52)=0
 replace h7:=eq_true h7
 rcases h8:((decide (r46=y18)&&(decide (r47=y19 ^^^ y25)&&(decide (r48=y20 ^^^ y26)&&decide (r49=0))))) with _|_
 rotate_left
 by_cases h9:(r50.length:Int)=(y22.length:Int)
 replace h9:=eq_true h9
 by_cases h10:(y28.length:Int)=(y22.length:Int)
 replace h10:=eq_true h10
 by_cases h11:(r51.length:Int)=(y23.length:Int)
 replace h11:=eq_true h11
 by_cases h12:(y29.length:Int)=(y23.length:Int)
 replace h12:=eq_true h12
 simp -implicitDefEqProofs (maxSteps:=4000000) only [*,a6,vlaw24_num,vnoise_Carry,k15,runC_loop,EVA.down,ne_eq,seval]
 rw [llaw24_NoiseProductsL2 (D+8) (by omega) F y18 y19 y20 y21 y22 y23 y24 y25 y26 y27 y28 y29 r46 r47 r48 r49 r50 r51 _ F 0 _ (by simp only [*,a6,vlaw24_num,vnoise_Carry,k15,EVA.down,ne_eq,seval];try rfl)]
 rcases h13:(Plaw24_NoiseProductsL2 y18 y19 y20 y21 y22 y23 y24 y25 y26 y27 y28 y29 r46 r47 r48 r49 r50 r51 F 0) with _|(_|_)
 rotate_left
 rotate_left
 simp -implicitDefEqProofs (maxSteps:=4000000) only [*,a6,vlaw24_num,vnoise_Carry,k15,runC_loop,EVA.down,ne_eq,seval]
 rw [llaw24_NoiseProductsL3 (D+8) (by omega) F y18 y19 y20 y21 y22 y23 y24 y25 y26 y27 y28 y29 r46 r47 r48 r49 r50 r51 _ F 0 _ (by simp only [*,a6,vlaw24_num,vnoise_Carry,k15,EVA.down,ne_eq,seval];try rfl)]
 rcases h14:(Plaw24_NoiseProductsL3 y18 y19 y20 y21 y22 y23 y24 y25 y26 y27 y28 y29 r46 r47 r48 r49 r50 r51 F 0) with _|(_|_)
 rotate_left
 rotate_left
 rotate_left
 rotate_left
 rotate_left
 rotate_left
 rotate_left
 rotate_left
 rcases h15:(Pnoise_Carry F y30 y31 y32 y45) with _|⟨r53,r54,r55,r56,r57,r58,r59⟩
 rotate_left
 by_cases h16:(Plaw24_num r59)=0
 replace h16:=eq_true h16
 rcases h17:((decide (r53=y33)&&(decide (r54=y34 ^^^ y40)&&(decide (r55=y35 ^^^ y41)&&decide (r56=0))))) with _|_
 rotate_left
 by_cases h18:(r57.length:Int)=(y37.length:Int)
 replace h18:=eq_true h18
 by_cases h19:(y43.length:Int)=(y37.length:Int)
 replace h19:=eq_true h19
 by_cases h20:(r58.length:Int)=(y38.length:Int)
 replace h20:=eq_true h20
 by_cases h21:(y44.length:Int)=(y38.length:Int)
 replace h21:=eq_true h21
 simp -implicitDefEqProofs (maxSteps:=4000000) only [*,a6,vlaw24_num,vnoise_Carry,k15,runC_loop,EVA.down,ne_eq,seval]
 rw [llaw24_NoiseProductsL2 (D+8) (by omega) F y33 y34 y35 y36 y37 y38 y39 y40 y41 y42 y43 y44 r53 r54 r55 r56 r57 r58 _ F 0 _ (by simp only [*,a6,vlaw24_num,vnoise_Carry,k15,EVA.down,ne_eq,seval];try rfl)]
 rcases h22:(Plaw24_NoiseProductsL2 y33 y34 y35 y36 y37 y38 y39 y40 y41 y42 y43 y44 r53 r54 r55 r56 r57 r58 F 0) with _|(_|_)
 rotate_left
 rotate_left
 simp -implicitDefEqProofs (maxSteps:=4000000) only [*,a6,vlaw24_num,vnoise_Carry,k15,runC_loop,EVA.down,ne_eq,seval]
 rw [llaw24_NoiseProductsL3 (D+8) (by omega) F y33 y34 y35 y36 y37 y38 y39 y40 y41 y42 y43 y44 r53 r54 r55 r56 r57 r58 _ F 0 _ (by simp only [*,a6,vlaw24_num,vnoise_Carry,k15,EVA.down,ne_eq,seval];try rfl)]
 rcases h23:(Plaw24_NoiseProductsL3 y33 y34 y35 y36 y37 y38 y39 y40 y41 y42 y43 y44 r53 r54 r55 r56 r57 r58 F 0) with _|(_|_)
 all_goals simp -implicitDefEqProofs (maxSteps:=4000000) only [*,a6,vlaw24_num,vnoise_Carry,k15,EVA.down,ne_eq,seval]
theorem vlaw24_NoiseProducts {D F n:Nat}{args:List AV}{h:AHeap}:OV F (D+1) 6 args h n (n+1)=evW 3 (OV F D) F a6 (frzs (frz true 0 (bif AV.nors args then [] else h) 8) args) (AV.nors args) (hglb h 3):=evV_frozen rfl
end Go.Proofs.YtbbikmfjnanpmaaDoor.Ab
