/- For evaluating with unknowns, by contents: how a call, a cut, a memory are rewritten. No condition: lemmas only. -/
import Derived.Test.YtchgkmdonhdfeaaGreatDoorAC
import Derived.Laws.FloatArith
set_option linter.unusedVariables false
set_option linter.unusedSimpArgs false
namespace Go.Proofs.YtchgkmdonhdfeaaGreatDoor.Ab
open Go
theorem hput_nil {id:Nat}{x:ABlk}:hput [] id x=[]:=rfl
theorem hput_cons {k id:Nat}{b x:ABlk}{r:AHeap}:hput ((k,b)::r) id x=if k=id then (k,x)::r else (k,b)::hput r id x:=by
 simp only [hput,nbeq_dec]
 by_cases h:k=id<;>simp [h]
theorem hdel_nil {id:Nat}:hdel [] id=[]:=rfl
theorem hdel_cons {k id:Nat}{b:ABlk}{r:AHeap}:hdel ((k,b)::r) id=if k=id then hdel r id else (k,b)::hdel r id:=by
 simp only [hdel,nbeq_dec]
 by_cases h:k=id<;>simp [h]
theorem happly_del {h:AHeap}{id:Nat}{r:List (Nat×Option ABlk)}:happly h ((id,none)::r)=hdel (happly h r) id:=rfl
noncomputable def hset (h:AHeap) (id:Nat) (b:ABlk):AHeap:=if (hget h id).isSome then hput h id b else (id,b)::h
theorem happly_set {h:AHeap}{id:Nat}{b:ABlk}{r:List (Nat×Option ABlk)}:happly h ((id,some b)::r)=hset (happly h r) id b:=by
 simp only [happly,hset]
 cases hget (happly h r) id<;>simp
theorem hset_eq {h:AHeap}{id:Nat}{b:ABlk}:hset h id b=if (hget h id).isSome then hput h id b else (id,b)::h:=rfl
theorem hnew_nil {n:Nat}:hnew [] n=[]:=rfl
theorem hnew_cons {k n:Nat}{b:ABlk}{r:AHeap}:hnew ((k,b)::r) n=if n≤k then (k,b)::hnew r n else hnew r n:=by
 simp only [hnew,nble_dec]
 by_cases h:n≤k<;>simp [h]
theorem hglb_zero {h:AHeap}:hglb h 0=[]:=rfl
theorem hglb_succ {h:AHeap}{k:Nat}:hglb h (k+1)=match hget h k with
  |some b=>bif AV.nors b.cells then (k,⟨false,false,b.ty,b.esz,b.cells⟩)::hglb h k else hglb h k
  |none=>hglb h k:=rfl
section
variable {ng:Nat}{O:Orc}{fs:Nat→Option AFn}{F:Nat}
noncomputable def evW (ng:Nat) (O:Orc) (F:Nat) (f:AFn) (a:Option (List AV)) (q:Bool) (G:AHeap):Option (AV×Option (AHeap×Nat)):=match a with
 |none=>none
 |some args=>match evFn O ng F f args G ng with
  |none=>none
  |some (v,h',_)=>match frz q ng h' 8 v with
   |some v'=>some (v',none)
   |none=>none
noncomputable def evX (ng:Nat) (O:Orc) (F:Nat) (f:AFn) (a:Option (List AV)) (q:Bool) (G:AHeap) (n:Nat):Option (AV×Option (AHeap×Nat)):=match a with
 |none=>none
 |some args=>match evFn O ng F f args G ng with
  |none=>none
  |some (v,h',_)=>bif q then
    match AV.ren ng n (ownIds ng v) v with
    |some v'=>match hown h' ng n (ownIds ng v) n (ownIds ng v) with
     |some news=>some (AV.nn v',some (news,n+(ownIds ng v).length))
     |none=>none
    |none=>none
   else none
theorem evV_frozen {D g n:Nat}{f:AFn}{args:List AV}{h:AHeap}(hf:fs g=some f):evV ng O fs F (D+1) g args h n (n+1)=evW ng (evV ng O fs F D) F f (frzs (frz true 0 (bif AV.nors args then [] else h) 8) args) (AV.nors args) (hglb h ng):=by
 show evP ng (evV ng O fs F D) fs F g args h n (n+1)=_
 unfold evP evW
 simp only [hf,Nat.beq_refl,Bool.true_or,cond_true]
 cases frzs (frz true 0 (bif AV.nors args then [] else h) 8) args with
 |none=>rfl
 |some a=>
  simp only
  cases evFn (evV ng O fs F D) ng F f a (hglb h ng) ng with
  |none=>rfl
  |some r=>obtain ⟨v,h',n'⟩:=r;rfl
theorem evV_own {D g n:Nat}{f:AFn}{args:List AV}{h:AHeap}(hf:fs g=some f):evV ng O fs F (D+1) g args h n n=evX ng (evV ng O fs F D) F f (frzs (frz true 0 (bif AV.nors args then [] else h) 8) args) (AV.nors args) (hglb h ng) n:=by
 show evP ng (evV ng O fs F D) fs F g args h n n=_
 unfold evP evX
 have h1:Nat.beq n (n+1)=false:=beq_false.2 (by omega)
 simp only [hf,Nat.beq_refl,Bool.or_true,cond_true,h1,cond_false]
 cases frzs (frz true 0 (bif AV.nors args then [] else h) 8) args with
 |none=>rfl
 |some a=>
  simp only
  cases evFn (evV ng O fs F D) ng F f a (hglb h ng) ng with
  |none=>rfl
  |some r=>obtain ⟨v,h',n'⟩:=r;rfl
theorem evV_write {D g n fl:Nat}{f:AFn}{args:List AV}{h:AHeap}(hf:fs g=some f)(hn:f.body.nog=true)(h1:fl≠n)(h2:fl≠n+1):evV ng O fs F (D+1) g args h n fl=match evFn (evV ng O fs F D) (flOf fl n) F f args h n with
  |some (v,h',n')=>some (v,some (h',n'))
  |none=>none:=by
 show evP ng (evV ng O fs F D) fs F g args h n fl=_
 unfold evP
 simp only [hf,beq_false.2 h1,beq_false.2 h2,Bool.or_self,cond_false,hn,cond_true]
 cases evFn (evV ng O fs F D) (flOf fl n) F f args h n<;>rfl
theorem evV_write2 {D g n fl:Nat}{f:AFn}{args:List AV}{h:AHeap}(hf:fs g=some f)(hn:f.body.nog=false)(h1:fl≠n)(h2:fl≠n+1):evV ng O fs F (D+1) g args h n fl =
  bif AV.olds n args&&hold n h&&Nat.ble ng n&&Nat.ble (flOf fl n) n then match evFn (evV ng O fs F D) (flOf fl n) F f args h n with
  |some (v,h',n')=>some (v,some (h',n'))
  |none=>none
  else none:=by
 show evP ng (evV ng O fs F D) fs F g args h n fl=_
 unfold evP
 simp only [hf,beq_false.2 h1,beq_false.2 h2,Bool.or_self,cond_false,hn]
 cases evFn (evV ng O fs F D) (flOf fl n) F f args h n<;>rfl
theorem evV_base {g n fl:Nat}{args:List AV}{h:AHeap}(hf:fs g=none):∀ D,evV ng O fs F D g args h n fl=O g args h n fl
 |0=>rfl
 |D+1=>by
  show evP ng (evV ng O fs F D) fs F g args h n fl=_
  unfold evP
  simp only [hf]
  exact evV_base hf D
theorem evW_some {f:AFn}{a:List AV}{q:Bool}{G:AHeap}:evW ng O F f (some a) q G=match evFn O ng F f a G ng with
  |none=>none
  |some (v,h',_)=>match frz q ng h' 8 v with
   |some v'=>some (v',none)
   |none=>none:=rfl
theorem evX_some {f:AFn}{a:List AV}{q:Bool}{G:AHeap}{n:Nat}:evX ng O F f (some a) q G n=match evFn O ng F f a G ng with
  |none=>none
  |some (v,h',_)=>bif q then
    match AV.ren ng n (ownIds ng v) v with
    |some v'=>match hown h' ng n (ownIds ng v) n (ownIds ng v) with
     |some news=>some (AV.nn v',some (news,n+(ownIds ng v).length))
     |none=>none
    |none=>none
   else none:=rfl
end
theorem runC_regm {O:Orc}{fl F:Nat}{st:List Fr}{k:AE→AS→Option Res}{s:AS}{m:Nat}{ds:List Nat}{kd:IntKind}{kvs:List (Int×Int)}:runC O fl F (.regm m ds kd kvs) s st k=retK O fl F .nrm { s with fr:=mfr m ds (.mp (mkvs kd kvs)) s.fr } st k:=rfl
theorem runC_cutg {O:Orc}{fl F:Nat}{st:List Fr}{k:AE→AS→Option Res}{s:AS}{base:Nat}{ts ls:List Nat}{a:AC}:runC O fl F (.cutg base ts ls a) s st k=match s.keepG s.n0 ts ls with
  |some s'=>runC O fl F a s' st k
  |none=>none:=rfl
def bidx (b:ByteArray)(j:Int):Option Int:=if 0≤j then (match b[j.toNat]? with|some c=>some (c.toNat:Int)|none=>none) else none
theorem evOp_idxs' {ρ:Type}{O:Orc}{fl:Nat}{d:Option Nat}{s:AS}{k:Eff→Foot→Option ρ}(x i:AX):evOp O fl d (.idxs x i) s k=match xn s.fr x with
  |some (.s b)=>match xn s.fr i with
   |some (.i _ j)=>match bidx b j with
    |some c=>k (.v (.i .u8 c) s.n) .no
    |none=>none
   |_=>none
  |_=>none:=by
 rw [evOp_idxs]
 cases xn s.fr x with
 |none=>rfl
 |some v=>
  cases v<;>try rfl
  rename_i b
  cases xn s.fr i with
  |none=>rfl
  |some u=>
   cases u<;>try rfl
   rename_i kk j
   simp only [bidx]
   by_cases h:0≤j
   ·simp only [if_pos h]
    cases b[j.toNat]?<;>rfl
   ·simp only [if_neg h]
theorem xn_kint {fr:List (Nat×AV)}{k:IntKind}{m:Int}:xn fr (.k (.i k m))=some (.i k m):=rfl
theorem hnewz:True:=trivial
theorem lk_all {O:Orc}{fl F:Nat}{a:AC}{f:Nat}{K:AE→AS→Option Res}:∃ k0,lk O fl F a f K=k0∧(∀ s,k0 .nrm s=evLoop (evC O fl F a) f s K)∧(∀ id s,k0 (.ex id) s=K (.ex id) s)∧(∀ s,k0 .ret s=K .ret s):=
 ⟨_,rfl,fun _=>rfl,fun _ _=>rfl,fun _=>rfl⟩
theorem u64_lit {m:Nat}(h:m<18446744073709551616):AV.i .u64 (OfNat.ofNat m)=.i .u64 (U (BitVec.ofNat 64 m)):=by
 congr 1
 unfold U
 rw [BitVec.toNat_ofNat]
 have:m % 2 ^ 64=m:=Nat.mod_eq_of_lt (by simpa using h)
 rw [this];rfl
theorem u64_0:AV.i .u64 0=.i .u64 (U 0#64):=rfl
theorem u64_1:AV.i .u64 1=.i .u64 (U 1#64):=rfl
theorem conv_u' (x:Int):AV.i .u64 (IntKind.u64.wrap x)=.i .u64 (U (BitVec.ofInt 64 x)):=by rw [wrap_u]
theorem toNat_U' (x:BitVec 64):(U x).toNat=x.toNat:=by unfold U;simp
theorem shl_uu' {a b:BitVec 64}:abin .shl (.i .u64 (U a)) (.i .u64 (U b))=some (.i .u64 (U (a <<< b.toNat))):=by rw [bin_shl_u (U_lt _).1,toNat_U']
theorem shr_uu' {a b:BitVec 64}:abin .shr (.i .u64 (U a)) (.i .u64 (U b))=some (.i .u64 (U (a >>> b.toNat))):=by rw [bin_shr_u (U_lt _).1,toNat_U']
theorem shl_ui {a:BitVec 64}{y:Int}(h:¬ y<0):abin .shl (.i .u64 (U a)) (.i .i64 y)=some (.i .u64 (U (a <<< y.toNat))):=bin_shl_u (by omega)
theorem shr_ui {a:BitVec 64}{y:Int}(h:¬ y<0):abin .shr (.i .u64 (U a)) (.i .i64 y)=some (.i .u64 (U (a >>> y.toNat))):=bin_shr_u (by omega)
theorem shl_neg {k:IntKind}{a y:Int}{k':IntKind}(h:y<0):abin .shl (.i k a) (.i k' y)=none:=by
 show (if y<0 then none else _)=_
 rw [if_pos h]
theorem shr_neg {k:IntKind}{a y:Int}{k':IntKind}(h:y<0):abin .shr (.i k a) (.i k' y)=none:=by
 show (if y<0 then none else _)=_
 rw [if_pos h]
theorem bin_mul_u' {a b:BitVec 64}:abin .mul (.i .u64 (U a)) (.i .u64 (U b))=some (.i .u64 (U (a*b))):=by
 show some (AV.i .u64 (IntKind.u64.wrap (U a*U b)))=_
 rw [wrap_u,BitVec.ofInt_mul,ofInt_U,ofInt_U]
theorem un_neg_u' {a:BitVec 64}:aun .neg (.i .u64 (U a))=some (.i .u64 (U (-a))):=by
 show some (AV.i .u64 (IntKind.u64.wrap (0-U a)))=_
 rw [wrap_u]
 congr 3
 apply BitVec.eq_of_toNat_eq
 rw [BitVec.toNat_ofInt,BitVec.toNat_neg]
 unfold U
 have:=a.isLt
 omega
theorem bin_and_i {x y:Int}:abin .and (.i .i64 x) (.i .i64 y)=some (.i .i64 (bitop .and .i64 x y)):=rfl
theorem bin_or_i {x y:Int}:abin .or (.i .i64 x) (.i .i64 y)=some (.i .i64 (bitop .or .i64 x y)):=rfl
theorem bin_xor_i {x y:Int}:abin .xor (.i .i64 x) (.i .i64 y)=some (.i .i64 (bitop .xor .i64 x y)):=rfl
theorem bin_neq8 {x y:Int}:abin .neq (.i .u8 x) (.i .u8 y)=some (.b (decide (x≠y))):=by
 show some (AV.b (x != y))=_
 congr 2
 rw [Bool.eq_iff_iff];simp
theorem bin_s_eql {a b:ByteArray}:abin .eql (.s a) (.s b)=some (.b (a.toList==b.toList)):=rfl
theorem bin_s_neq {a b:ByteArray}:abin .neq (.s a) (.s b)=some (.b (!(a.toList==b.toList))):=rfl
theorem same_i64:IntKind.same .i64 .i64=true:=rfl
theorem same_u64:IntKind.same .u64 .u64=true:=rfl
theorem same_u8:IntKind.same .u8 .u8=true:=rfl
theorem aeqs_i {a b:Int}{bs:List Nat}{xs ys:List AV}:aeqs (0::bs) (.i .i64 a::xs) (.i .i64 b::ys)=match aeqs bs xs ys with|some r=>some (decide (a=b)&&r)|none=>if a=b then none else some false:=by
 show (bif IntKind.same .i64 .i64 then (bif a==b then aeqs bs xs ys else some false) else none)=_
 rw [same_i64,cond_true]
 by_cases h:a=b
 ·have:(a==b)=true:=by simp [h]
  rw [this];cases aeqs bs xs ys<;>simp [h]
 ·have:(a==b)=false:=by simp [h]
  rw [this];cases aeqs bs xs ys<;>simp [h]
theorem aeqs_u {a b:BitVec 64}{bs:List Nat}{xs ys:List AV}:aeqs (0::bs) (.i .u64 (U a)::xs) (.i .u64 (U b)::ys)=match aeqs bs xs ys with|some r=>some (decide (a=b)&&r)|none=>if a=b then none else some false:=by
 show (bif IntKind.same .u64 .u64 then (bif U a==U b then aeqs bs xs ys else some false) else none)=_
 rw [same_u64,cond_true]
 by_cases h:a=b
 ·subst h
  cases aeqs bs xs ys<;>simp
 ·have:(U a==U b)=false:=by simp [U_inj,h]
  rw [this];cases aeqs bs xs ys<;>simp [h]
theorem aeqs_b {a b:Bool}{bs:List Nat}{xs ys:List AV}:aeqs (1::bs) (.b a::xs) (.b b::ys)=match aeqs bs xs ys with|some r=>some ((a==b)&&r)|none=>if a=b then none else some false:=by
 show (bif a==b then aeqs bs xs ys else some false)=_
 cases a<;>cases b<;>cases aeqs bs xs ys<;>simp
theorem aeqs_f {a b:Nat}{bs:List Nat}{xs ys:List AV}:aeqs (2::bs) (.f .f64 a::xs) (.f .f64 b::ys)=match aeqs bs xs ys with|some r=>some ((FloatKind.f64.format.order a b==some .eq)&&r)|none=>if (FloatKind.f64.format.order a b==some .eq)=true then none else some false:=by
 show (bif FloatKind.f64.format.order a b==some .eq then aeqs bs xs ys else some false)=_
 cases FloatKind.f64.format.order a b==some .eq<;>cases aeqs bs xs ys<;>simp
theorem aeqs_nil:aeqs [] [] []=some true:=rfl
theorem cond_ff {b:Bool}:(bif false then !b else b)=b:=rfl
mutual
theorem ids_nor {base:Nat}:∀ {a:AV}{l:List Nat},a.nor=true→AV.ids base a l=l
 | .b _,_,_=>rfl
 | .i _ _,_,_=>rfl
 | .f _ _,_,_=>rfl
 | .c _ _ _,_,_=>rfl
 | .s _,_,_=>rfl
 | .p none,_,_=>rfl
 | .p (some (_,_)),_,h=>by simp [AV.nor] at h
 | .lp _ _,_,h=>by simp [AV.nor] at h
 | .sl none _ _,_,_=>rfl
 | .sl (some (_,_)) _ _,_,h=>by simp [AV.nor] at h
 | .fn _ x y,l,h=>by
  simp only [AV.nor,Bool.and_eq_true] at h
  simp only [AV.ids,idss_nors h.1,idss_nors h.2]
 | .nilfn,_,_=>rfl
 | .nilif,_,_=>rfl
 | .agg cs,l,h=>by simp only [AV.nor] at h;simp only [AV.ids,idss_nors h]
 | .tup cs,l,h=>by simp only [AV.nor] at h;simp only [AV.ids,idss_nors h]
 | .vs _ _ cs,l,h=>by simp only [AV.nor] at h;simp only [AV.ids,idss_nors h]
 | .vp cs,l,h=>by simp only [AV.nor] at h;simp only [AV.ids,idss_nors h]
 | .mp cs,l,h=>by simp only [AV.nor] at h;simp only [AV.ids,idss_nors h]
theorem idss_nors {base:Nat}:∀ {a:List AV}{l:List Nat},AV.nors a=true→AV.idss base a l=l
 | [],_,_=>rfl
 |x::xs,l,h=>by
  simp only [AV.nors,Bool.and_eq_true] at h
  simp only [AV.idss,ids_nor h.1,idss_nors h.2]
end
mutual
theorem ren_id {base nb:Nat}{l:List Nat}:∀ {a:AV},a.nor=true→AV.ren base nb l a=some a
 | .b _,_=>rfl
 | .i _ _,_=>rfl
 | .f _ _,_=>rfl
 | .c _ _ _,_=>rfl
 | .s _,_=>rfl
 | .p none,_=>rfl
 | .p (some (_,_)),h=>by simp [AV.nor] at h
 | .lp _ _,h=>by simp [AV.nor] at h
 | .sl none _ _,_=>rfl
 | .sl (some (_,_)) _ _,h=>by simp [AV.nor] at h
 | .fn _ x y,h=>by
  simp only [AV.nor,Bool.and_eq_true] at h
  simp only [AV.ren,rens_id h.1,rens_id h.2]
 | .nilfn,_=>rfl
 | .nilif,_=>rfl
 | .agg cs,h=>by simp only [AV.nor] at h;simp only [AV.ren,rens_id h]
 | .tup cs,h=>by simp only [AV.nor] at h;simp only [AV.ren,rens_id h]
 | .vs _ _ cs,h=>by simp only [AV.nor] at h;simp only [AV.ren,rens_id h]
 | .vp cs,h=>by simp only [AV.nor] at h;simp only [AV.ren,rens_id h]
 | .mp cs,h=>by simp only [AV.nor] at h;simp only [AV.ren,rens_id h]
theorem rens_id {base nb:Nat}{l:List Nat}:∀ {a:List AV},AV.nors a=true→AV.rens base nb l a=some a
 | [],_=>rfl
 |x::xs,h=>by
  simp only [AV.nors,Bool.and_eq_true] at h
  simp only [AV.rens,ren_id h.1,rens_id h.2]
end
mutual
theorem old_nor {n:Nat}:∀ {a:AV},a.nor=true→AV.old n a=true
 | .b _,_=>rfl
 | .i _ _,_=>rfl
 | .f _ _,_=>rfl
 | .c _ _ _,_=>rfl
 | .s _,_=>rfl
 | .p none,_=>rfl
 | .p (some (_,_)),h=>by simp [AV.nor] at h
 | .lp _ _,h=>by simp [AV.nor] at h
 | .sl none _ _,_=>rfl
 | .sl (some (_,_)) _ _,h=>by simp [AV.nor] at h
 | .fn _ x y,h=>by
  simp only [AV.nor,Bool.and_eq_true] at h
  simp only [AV.old,olds_nors h.1,olds_nors h.2,Bool.and_self]
 | .nilfn,_=>rfl
 | .nilif,_=>rfl
 | .agg cs,h=>by simp only [AV.nor] at h;simp only [AV.old,olds_nors h]
 | .tup cs,h=>by simp only [AV.nor] at h;simp only [AV.old,olds_nors h]
 | .vs _ _ cs,h=>by simp only [AV.nor] at h;simp only [AV.old,olds_nors h]
 | .vp cs,h=>by simp only [AV.nor] at h;simp only [AV.old,olds_nors h]
 | .mp cs,h=>by simp only [AV.nor] at h;simp only [AV.old,olds_nors h]
theorem olds_nors {n:Nat}:∀ {a:List AV},AV.nors a=true→AV.olds n a=true
 | [],_=>rfl
 |x::xs,h=>by
  simp only [AV.nors,Bool.and_eq_true] at h
  simp only [AV.olds,old_nor h.1,olds_nors h.2,Bool.and_self]
end
def AV.flat1:AV→Bool
 | .b _ | .i _ _ | .f _ _ | .c _ _ _ | .s _=>true
 | .vs _ .unk _=>true
 |_=>false
theorem frz_flat1 {base:Nat}{h:AHeap}{f:Nat}{a:AV}(ha:a.flat1=true):frz true base h (f+1) a=some a:=by
 cases a<;>simp [AV.flat1] at ha<;>try rfl
 rename_i len cap cs
 cases cap<;>simp [AV.flat1] at ha
 rfl
theorem frzs_flat {base:Nat}{h:AHeap}{f:Nat}:∀ {l:List AV},l.all AV.flat1=true→frzs (frz true base h (f+1)) l=some l
 | [],_=>rfl
 |x::xs,ha=>by
  simp only [List.all_cons,Bool.and_eq_true] at ha
  simp only [frzs,frz_flat1 ha.1,frzs_flat ha.2]
end Go.Proofs.YtchgkmdonhdfeaaGreatDoor.Ab
/- Lists as contents: what is read of them, put into them, cut out of them. No condition: lemmas only. -/
set_option linter.unusedVariables false
set_option linter.unusedSimpArgs false
namespace Go.Proofs.YtchgkmdonhdfeaaGreatDoor.Ab
open Go
def enc {α:Type}(c:α→List AV):List α→List AV
 | []=>[]
 |x::l=>c x++enc c l
def idx {α:Type}(l:List α)(j:Int):Option α:=if 0≤j then l[j.toNat]? else none
theorem idx_nat {α:Type}(l:List α)(j:Nat):idx l (j:Int)=l[j]?:=by simp [idx]
theorem idx_some {α:Type}{l:List α}{j:Int}{x:α}(h:idx l j=some x):0≤j∧j.toNat<l.length∧l[j.toNat]? = some x:=by
 unfold idx at h
 split at h
 ·rename_i h0
  exact ⟨h0,(List.getElem?_eq_some_iff.1 h).1,h⟩
 ·cases h
theorem idx_inb {α:Type}{l:List α}{j:Int}{x:α}(h:idx l j=some x):inb j l.length=true:=by
 obtain ⟨h0,h1,_⟩:=idx_some h
 exact inb_lt ⟨h0,by omega⟩
theorem idx_out {α:Type}{l:List α}{j:Int}(h:idx l j=none):inb j l.length=false:=by
 unfold idx at h
 unfold inb
 split at h
 ·rename_i h0
  have:=List.getElem?_eq_none_iff.1 h
  simp;omega
 ·rename_i h0
  simp;omega
theorem enc_nil {α:Type}{c:α→List AV}:enc c []=[]:=rfl
theorem enc_cons {α:Type}{c:α→List AV}{x:α}{l:List α}:enc c (x::l)=c x++enc c l:=rfl
theorem enc_append {α:Type}{c:α→List AV}:∀ {l m:List α},enc c (l++m)=enc c l++enc c m
 | [],m=>rfl
 |x::l,m=>by simp only [List.cons_append,enc,enc_append,List.append_assoc]
section
variable {α:Type}{c:α→List AV}{w:Nat}
theorem enc_len (hw:∀ x,(c x).length=w):∀ l:List α,(enc c l).length=l.length*w
 | []=>by simp [enc]
 |x::l=>by simp only [enc,List.length_append,hw,enc_len hw l,List.length_cons,Nat.add_mul,Nat.one_mul];omega
theorem enc_all {p:AV→Bool}(hw:∀ x,(c x).all p=true):∀ l:List α,(enc c l).all p=true
 | []=>rfl
 |x::l=>by simp only [enc,List.all_append,hw,enc_all hw l,Bool.and_self]
theorem enc_nors (hw:∀ x,AV.nors (c x)=true):∀ l:List α,AV.nors (enc c l)=true
 | []=>rfl
 |x::l=>by simp only [enc,nors_append,hw,enc_nors hw l,Bool.and_self]
theorem enc_take (hw:∀ x,(c x).length=w)(l:List α):(enc c l).take (l.length*w)=enc c l:=List.take_of_length_le (by rw [enc_len hw];exact Nat.le_refl _)
theorem enc_dropw (hw:∀ x,(c x).length=w):∀ (l:List α) (k:Nat),(enc c l).drop (k*w)=enc c (l.drop k)
 | [],k=>by simp [enc]
 |x::l,0=>by simp
 |x::l,k+1=>by
  simp only [enc,List.drop_succ_cons]
  rw [Nat.add_mul,Nat.one_mul,Nat.add_comm,← List.drop_drop,List.drop_left' (hw x),enc_dropw hw l k]
theorem enc_takew (hw:∀ x,(c x).length=w):∀ (l:List α) (k:Nat),(enc c l).take (k*w)=enc c (l.take k)
 | [],k=>by simp [enc]
 |x::l,0=>by simp [enc]
 |x::l,k+1=>by
  simp only [enc,List.take_succ_cons]
  rw [Nat.add_mul,Nat.one_mul,Nat.add_comm,List.take_append,hw x,List.take_of_length_le (by rw [hw];omega),show w+k*w-w=k*w by omega,enc_takew hw l k]
theorem enc_part (hw:∀ x,(c x).length=w)(l:List α)(a n:Nat):((enc c l).drop (a*w)).take (n*w)=enc c ((l.drop a).take n):=by rw [enc_dropw hw,enc_takew hw]
theorem enc_at (hw:∀ x,(c x).length=w){l:List α}{j:Int}{x:α}(h:idx l j=some x):∃ r,(enc c l).drop (j.toNat*w)=c x++r:=by
 obtain ⟨_,h1,h2⟩:=idx_some h
 rw [enc_dropw hw]
 have:l.drop j.toNat=x::l.drop (j.toNat+1):=by
  rw [List.drop_eq_getElem_cons h1]
  congr 1
  have:=(List.getElem?_eq_some_iff.1 h2).2
  exact this
 rw [this]
 exact ⟨_,rfl⟩
theorem vp_row (hw:∀ x,(c x).length=w){l:List α}{j:Int}{x:α}(h:idx l j=some x):apart_ ((enc c l).drop (j.toNat*w)) 0 (some w)=some (.agg (c x)):=by
 obtain ⟨r,hr⟩:=enc_at hw h
 rw [hr]
 simp only [apart_,Nat.zero_add,List.drop_zero]
 rw [nble_dec,List.length_append,hw]
 simp only [Nat.le_add_right,decide_true,cond_true]
 rw [List.take_left' (hw x)]
theorem vp_cell (hw:∀ x,(c x).length=w){l:List α}{j:Int}{x:α}{k:Nat}(h:idx l j=some x)(hk:k<w):apart_ (((enc c l).drop (j.toNat*w)).drop k) 0 none=(c x)[k]?:=by
 obtain ⟨r,hr⟩:=enc_at hw h
 rw [hr]
 simp only [apart_,List.getElem?_drop,Nat.add_zero]
 rw [List.getElem?_append_left (by rw [hw];exact hk)]
theorem vp_cell0 (hw:∀ x,(c x).length=w){l:List α}{j:Int}{x:α}(h:idx l j=some x)(hk:0<w):apart_ ((enc c l).drop (j.toNat*w)) 0 none=(c x)[0]?:=by
 obtain ⟨r,hr⟩:=enc_at hw h
 rw [hr]
 simp only [apart_]
 rw [List.getElem?_append_left (by rw [hw];exact hk)]
theorem vp_sub1 (hw:∀ x,(c x).length=w){l:List α}{j:Int}{x:α}{k q r:Nat}(h:idx l j=some x)(hr:k+q=r)(hk:r<w):apart_ ((((enc c l).drop (j.toNat*w)).drop k).drop q) 0 none=(c x)[r]?:=by
 have:=vp_cell hw h hk
 rw [← hr] at this
 rw [List.drop_drop]
 rw [← hr]
 exact this
theorem vp_sub (hw:∀ x,(c x).length=w){l:List α}{j:Int}{x:α}{k m:Nat}(h:idx l j=some x)(hk:k+m≤w):apart_ (((enc c l).drop (j.toNat*w)).drop k) 0 (some m)=some (.agg (((c x).drop k).take m)):=by
 obtain ⟨r,hr⟩:=enc_at hw h
 rw [hr]
 simp only [apart_,Nat.zero_add,List.drop_zero]
 rw [nble_dec,List.length_drop,List.length_append,hw]
 rw [decide_eq_true (by omega:m≤w+r.length-k),cond_true,List.drop_append,hw,List.take_append,List.length_drop,hw]
 rw [show m-(w-k)=0 by omega,List.take_zero,List.append_nil]
theorem own_row (hw:∀ x,(c x).length=w){l:List α}{j:Int}{x:α}(h:idx l j=some x):apart_ (enc c l) (j.toNat*w) (some w)=some (.agg (c x)):=by
 have:=vp_row hw h
 obtain ⟨r,hr⟩:=enc_at hw h
 obtain ⟨_,h1,_⟩:=idx_some h
 simp only [apart_]
 rw [hr,List.take_left' (hw x),nble_dec,enc_len hw]
 have:j.toNat*w+w≤l.length*w:=by rw [← Nat.succ_mul];exact Nat.mul_le_mul_right _ h1
 simp only [this,decide_true,cond_true]
theorem own_cell (hw:∀ x,(c x).length=w){l:List α}{j:Int}{x:α}{k:Nat}(h:idx l j=some x)(hk:k<w):apart_ (enc c l) (j.toNat*w+k) none=(c x)[k]?:=by
 have:=vp_cell hw h hk
 simp only [apart_,List.getElem?_drop,Nat.add_zero] at this ⊢
 exact this
theorem own_cell0 (hw:∀ x,(c x).length=w){l:List α}{j:Int}{x:α}(h:idx l j=some x)(hk:0<w):apart_ (enc c l) (j.toNat*w) none=(c x)[0]?:=own_cell (k:=0) hw h hk
theorem own_sub (hw:∀ x,(c x).length=w){l:List α}{j:Int}{x:α}{k m:Nat}(h:idx l j=some x)(hk:k+m≤w):apart_ (enc c l) (j.toNat*w+k) (some m)=some (.agg (((c x).drop k).take m)):=by
 have h0:=vp_sub hw h hk
 obtain ⟨_,h1,_⟩:=idx_some h
 have h2:j.toNat*w+w≤l.length*w:=by rw [← Nat.succ_mul];exact Nat.mul_le_mul_right _ h1
 simp only [apart_,Nat.zero_add,List.drop_zero,List.drop_drop] at h0 ⊢
 rw [nble_dec,enc_len hw,decide_eq_true (by omega:j.toNat*w+k+m≤l.length*w),cond_true]
 rw [nble_dec,List.length_drop,enc_len hw,decide_eq_true (by omega:m≤l.length*w-(j.toNat*w+k)),cond_true] at h0
 exact h0
theorem own_room (hw:∀ x,(c x).length=w){l:List α}{j:Int}{x:α}{k n:Nat}(h:idx l j=some x)(hk:k+n≤w):Nat.ble (j.toNat*w+k+n) (enc c l).length=true:=by
 obtain ⟨_,h1,_⟩:=idx_some h
 rw [nble_dec,enc_len hw]
 have:j.toNat*w+w≤l.length*w:=by rw [← Nat.succ_mul];exact Nat.mul_le_mul_right _ h1
 simp only [decide_eq_true_eq];omega
theorem enc_splice (hw:∀ x,(c x).length=w):∀ {l:List α}{j:Nat}{x y:α}{k:Nat}{vs:List AV},l[j]? = some x→k+vs.length≤w→splice (c x) k vs=c y→splice (enc c l) (j*w+k) vs=enc c (l.set j y)
 | [],j,x,y,k,vs,h,_,_=>by simp at h
 |z::l,0,x,y,k,vs,h,hk,e=>by
  simp at h;subst h
  simp only [enc,Nat.zero_mul,Nat.zero_add,List.set_cons_zero]
  rw [← e,splice_eq vs (c z) k (by rw [hw];exact hk),splice_eq vs _ k (by rw [List.length_append,hw];omega)]
  rw [List.take_append_of_le_length (by rw [hw];omega),List.drop_append_of_le_length (by rw [hw];omega)]
  simp only [List.append_assoc]
 |z::l,j+1,x,y,k,vs,h,hk,e=>by
  simp at h
  have hlt:j<l.length:=(List.getElem?_eq_some_iff.1 h).1
  have ih:=enc_splice hw (l:=l) h hk e
  have h1:j*w+w≤l.length*w:=by rw [← Nat.succ_mul];exact Nat.mul_le_mul_right _ hlt
  simp only [enc,List.set_cons_succ]
  rw [← ih,splice_eq vs (enc c l) (j*w+k) (by rw [enc_len hw];omega),splice_eq vs _ ((j+1)*w+k) (by rw [List.length_append,hw,enc_len hw];rw [Nat.succ_mul];omega)]
  have e1:(j+1)*w+k=w+(j*w+k):=by rw [Nat.succ_mul];omega
  rw [e1,List.take_append,hw,List.take_of_length_le (by rw [hw];omega),show w+(j*w+k)-w=j*w+k by omega]
  rw [show w+(j*w+k)+vs.length=w+(j*w+k+vs.length) by omega,List.drop_append,hw,List.drop_of_length_le (by rw [hw];omega),show w+(j*w+k+vs.length)-w=j*w+k+vs.length by omega]
  simp only [List.append_assoc,List.nil_append]
theorem own_put (hw:∀ x,(c x).length=w){l:List α}{j:Int}{x:α}(h:idx l j=some x)(y:α):splice (enc c l) (j.toNat*w) (c y)=enc c (l.set j.toNat y):=by
 obtain ⟨_,h1,h2⟩:=idx_some h
 have:=enc_splice hw (k:=0) (vs:=c y) (y:=y) h2 (by rw [hw];omega) (by rw [splice_eq _ _ _ (by rw [hw,hw];omega)];simp [hw])
 simpa using this
end
theorem vp_one {α:Type}{c:α→List AV}(hw:∀ x,(c x).length=1){l:List α}{j:Int}{x:α}(h:idx l j=some x):apart_ ((enc c l).drop j.toNat) 0 none=(c x)[0]?:=by
 have:=vp_cell0 hw h (by decide)
 rwa [Nat.mul_one] at this
theorem own_one {α:Type}{c:α→List AV}(hw:∀ x,(c x).length=1){l:List α}{j:Int}{x:α}(h:idx l j=some x):apart_ (enc c l) j.toNat none=(c x)[0]?:=by
 have:=own_cell0 hw h (by decide)
 rwa [Nat.mul_one] at this
theorem put_one {α:Type}{c:α→List AV}(hw:∀ x,(c x).length=1){l:List α}{j:Int}{x:α}(h:idx l j=some x)(y:α):splice (enc c l) j.toNat (c y)=enc c (l.set j.toNat y):=by
 have:=own_put hw h y
 rwa [Nat.mul_one] at this
theorem set_inb {α:Type}{l:List α}{j:Int}{x y:α}{i:Nat}(h:idx (l.set i y) j=some x):inb j l.length=true:=by
 have:=idx_inb h
 rwa [List.length_set] at this
theorem set_out {α:Type}{l:List α}{j:Int}{y:α}{i:Nat}(h:idx (l.set i y) j=none):inb j l.length=false:=by
 have:=idx_out h
 rwa [List.length_set] at this
def mkOk (bytes:Nat)(l c:Int):Bool:=decide (0≤l∧l≤c∧(bytes:Int)*c≤2 ^ 47∧c<2 ^ 62)
theorem evOp_mks2 {ρ:Type}{O:Orc}{fl:Nat}{d:Option Nat}{s:AS}{k:Eff→Foot→Option ρ}(ety:TypeId)(esz bytes:Nat)(z:List AV)(len cap:AX):evOp O fl d (.mks ety esz bytes z len cap) s k=match xn s.fr len with
  |some (.i _ l)=>(match xn s.fr cap with
   |some (.i _ c)=>bif mkOk bytes l c then
     k ⟨some (.sl (some (s.n,0)) l.toNat (.ex c.toNat)),[],[(s.n,some ⟨true,false,ety,esz,(List.replicate c.toNat z).flatten⟩)],s.n+1,none⟩ .no
    else none
   |_=>none)
  |_=>none:=by
 rw [evOp_mks]
 congr 1
 funext k1 l
 congr 1
 funext k2 c
 unfold mkOk
 by_cases h:0≤l∧l≤c∧(bytes:Int)*c≤2 ^ 47∧c<2 ^ 62
 ·rw [if_pos h,decide_eq_true h];rfl
 ·rw [if_neg h,decide_eq_false h];rfl
theorem enc_repl {α:Type}(c:α→List AV)(n:Nat)(x:α):(List.replicate n (c x)).flatten=enc c (List.replicate n x):=by
 induction n with
 |zero=>rfl
 |succ n ih=>rw [List.replicate_succ,List.replicate_succ,List.flatten_cons,ih];rfl
theorem flat_some {α:Type}{x:α}:(some x).isSome=true:=rfl
end Go.Proofs.YtchgkmdonhdfeaaGreatDoor.Ab
/- The rules by which an evaluation with unknowns is rewritten, as one conjunction. No condition: lemmas only. -/
set_option linter.unusedSimpArgs false
set_option linter.unusedVariables false
set_option maxRecDepth 100000
namespace Go.Proofs.YtchgkmdonhdfeaaGreatDoor.Ab
open Go
theorem zislp_b {x:Bool}:(AV.islp (.b x))=false:=rfl
theorem zislp_i {k:IntKind}{n:Int}:(AV.islp (.i k n))=false:=rfl
theorem zislp_f {k:FloatKind}{n:Nat}:(AV.islp (.f k n))=false:=rfl
theorem zislp_c {k:FloatKind}{n m:Nat}:(AV.islp (.c k n m))=false:=rfl
theorem zislp_s {x:ByteArray}:(AV.islp (.s x))=false:=rfl
theorem zislp_pn  : (AV.islp (.p none))=false:=rfl
theorem zislp_ps {a b:Nat}:(AV.islp (.p (some (a,b))))=false:=rfl
theorem zislp_sn {a:Nat}{cap:ACap}:(AV.islp (.sl none a cap))=false:=rfl
theorem zislp_ss {a b c:Nat}{cap:ACap}:(AV.islp (.sl (some (a,b)) c cap))=false:=rfl
theorem zislp_fn {g:Fn}{x y:List AV}:(AV.islp (.fn g x y))=false:=rfl
theorem zislp_nf  : (AV.islp .nilfn)=false:=rfl
theorem zislp_ni  : (AV.islp .nilif)=false:=rfl
theorem zislp_ag {cs:List AV}:(AV.islp (.agg cs))=false:=rfl
theorem zislp_tu {cs:List AV}:(AV.islp (.tup cs))=false:=rfl
theorem zislp_vs {a:Nat}{cap:ACap}{cs:List AV}:(AV.islp (.vs a cap cs))=false:=rfl
theorem zislp_vp {cs:List AV}:(AV.islp (.vp cs))=false:=rfl
theorem zcells_b {x:Bool}:(AV.cells (.b x))=[(.b x)]:=rfl
theorem zcells_i {k:IntKind}{n:Int}:(AV.cells (.i k n))=[(.i k n)]:=rfl
theorem zcells_f {k:FloatKind}{n:Nat}:(AV.cells (.f k n))=[(.f k n)]:=rfl
theorem zcells_c {k:FloatKind}{n m:Nat}:(AV.cells (.c k n m))=[(.c k n m)]:=rfl
theorem zcells_s {x:ByteArray}:(AV.cells (.s x))=[(.s x)]:=rfl
theorem zcells_pn  : (AV.cells (.p none))=[(.p none)]:=rfl
theorem zcells_ps {a b:Nat}:(AV.cells (.p (some (a,b))))=[(.p (some (a,b)))]:=rfl
theorem zcells_lp {a b:Nat}:(AV.cells (.lp a b))=[(.lp a b)]:=rfl
theorem zcells_sn {a:Nat}{cap:ACap}:(AV.cells (.sl none a cap))=[(.sl none a cap)]:=rfl
theorem zcells_ss {a b c:Nat}{cap:ACap}:(AV.cells (.sl (some (a,b)) c cap))=[(.sl (some (a,b)) c cap)]:=rfl
theorem zcells_fn {g:Fn}{x y:List AV}:(AV.cells (.fn g x y))=[(.fn g x y)]:=rfl
theorem zcells_nf  : (AV.cells .nilfn)=[.nilfn]:=rfl
theorem zcells_ni  : (AV.cells .nilif)=[.nilif]:=rfl
theorem zcells_tu {cs:List AV}:(AV.cells (.tup cs))=[(.tup cs)]:=rfl
theorem zcells_vs {a:Nat}{cap:ACap}{cs:List AV}:(AV.cells (.vs a cap cs))=[(.vs a cap cs)]:=rfl
theorem zcells_vp {cs:List AV}:(AV.cells (.vp cs))=[(.vp cs)]:=rfl
theorem zone_b {x:Bool}:(AV.one (.b x))=true:=rfl
theorem zone_i {k:IntKind}{n:Int}:(AV.one (.i k n))=true:=rfl
theorem zone_f {k:FloatKind}{n:Nat}:(AV.one (.f k n))=true:=rfl
theorem zone_c {k:FloatKind}{n m:Nat}:(AV.one (.c k n m))=true:=rfl
theorem zone_s {x:ByteArray}:(AV.one (.s x))=true:=rfl
theorem zone_pn  : (AV.one (.p none))=true:=rfl
theorem zone_ps {a b:Nat}:(AV.one (.p (some (a,b))))=true:=rfl
theorem zone_sn {a:Nat}{cap:ACap}:(AV.one (.sl none a cap))=true:=rfl
theorem zone_ss {a b c:Nat}{cap:ACap}:(AV.one (.sl (some (a,b)) c cap))=true:=rfl
theorem zone_fn {g:Fn}{x y:List AV}:(AV.one (.fn g x y))=true:=rfl
theorem zone_nf  : (AV.one .nilfn)=true:=rfl
theorem zone_ni  : (AV.one .nilif)=true:=rfl
theorem zone_vs {a:Nat}{cap:ACap}{cs:List AV}:(AV.one (.vs a cap cs))=true:=rfl
theorem zone_vp {cs:List AV}:(AV.one (.vp cs))=true:=rfl
theorem zfrz_b {x:Bool}{okv:Bool}{base f0:Nat}{h:AHeap}:frz okv base h (f0+1) (.b x)=some (.b x):=rfl
theorem zfrz_i {k:IntKind}{n:Int}{okv:Bool}{base f0:Nat}{h:AHeap}:frz okv base h (f0+1) (.i k n)=some (.i k n):=rfl
theorem zfrz_f {k:FloatKind}{n:Nat}{okv:Bool}{base f0:Nat}{h:AHeap}:frz okv base h (f0+1) (.f k n)=some (.f k n):=rfl
theorem zfrz_c {k:FloatKind}{n m:Nat}{okv:Bool}{base f0:Nat}{h:AHeap}:frz okv base h (f0+1) (.c k n m)=some (.c k n m):=rfl
theorem zfrz_s {x:ByteArray}{okv:Bool}{base f0:Nat}{h:AHeap}:frz okv base h (f0+1) (.s x)=some (.s x):=rfl
theorem zfrz_pn {okv:Bool}{base f0:Nat}{h:AHeap}:frz okv base h (f0+1) (.p none)=some (.p none):=rfl
theorem zfrz_nf {okv:Bool}{base f0:Nat}{h:AHeap}:frz okv base h (f0+1) .nilfn=some .nilfn:=rfl
theorem zfrz_ni {okv:Bool}{base f0:Nat}{h:AHeap}:frz okv base h (f0+1) .nilif=some .nilif:=rfl
theorem znor_b {x:Bool}:(AV.nor (.b x))=true:=rfl
theorem znor_i {k:IntKind}{n:Int}:(AV.nor (.i k n))=true:=rfl
theorem znor_f {k:FloatKind}{n:Nat}:(AV.nor (.f k n))=true:=rfl
theorem znor_c {k:FloatKind}{n m:Nat}:(AV.nor (.c k n m))=true:=rfl
theorem znor_s {x:ByteArray}:(AV.nor (.s x))=true:=rfl
theorem znor_pn  : (AV.nor (.p none))=true:=rfl
theorem znor_sn {a:Nat}{cap:ACap}:(AV.nor (.sl none a cap))=true:=rfl
theorem znor_nf  : (AV.nor .nilfn)=true:=rfl
theorem znor_ni  : (AV.nor .nilif)=true:=rfl
theorem znn_b {x:Bool}:(AV.nn (.b x))=(.b x):=rfl
theorem znn_i {k:IntKind}{n:Int}:(AV.nn (.i k n))=(.i k n):=rfl
theorem znn_f {k:FloatKind}{n:Nat}:(AV.nn (.f k n))=(.f k n):=rfl
theorem znn_c {k:FloatKind}{n m:Nat}:(AV.nn (.c k n m))=(.c k n m):=rfl
theorem znn_s {x:ByteArray}:(AV.nn (.s x))=(.s x):=rfl
theorem znn_pn  : (AV.nn (.p none))=(.p none):=rfl
theorem znn_ps {a b:Nat}:(AV.nn (.p (some (a,b))))=(.p (some (a,b))):=rfl
theorem znn_lp {a b:Nat}:(AV.nn (.lp a b))=(.lp a b):=rfl
theorem znn_ss {a b c:Nat}{cap:ACap}:(AV.nn (.sl (some (a,b)) c cap))=(.sl (some (a,b)) c cap):=rfl
theorem znn_fn {g:Fn}{x y:List AV}:(AV.nn (.fn g x y))=(.fn g x y):=rfl
theorem znn_nf  : (AV.nn .nilfn)=.nilfn:=rfl
theorem znn_ni  : (AV.nn .nilif)=.nilif:=rfl
theorem znn_vs {a:Nat}{cap:ACap}{cs:List AV}:(AV.nn (.vs a cap cs))=(.vs a cap cs):=rfl
theorem znn_vp {cs:List AV}:(AV.nn (.vp cs))=(.vp cs):=rfl
theorem zids_b {x:Bool}{base:Nat}{l:List Nat}:AV.ids base (.b x) l=l:=rfl
theorem zids_i {k:IntKind}{n:Int}{base:Nat}{l:List Nat}:AV.ids base (.i k n) l=l:=rfl
theorem zids_f {k:FloatKind}{n:Nat}{base:Nat}{l:List Nat}:AV.ids base (.f k n) l=l:=rfl
theorem zids_c {k:FloatKind}{n m:Nat}{base:Nat}{l:List Nat}:AV.ids base (.c k n m) l=l:=rfl
theorem zids_s {x:ByteArray}{base:Nat}{l:List Nat}:AV.ids base (.s x) l=l:=rfl
theorem zids_pn {base:Nat}{l:List Nat}:AV.ids base (.p none) l=l:=rfl
theorem zids_lp {a b:Nat}{base:Nat}{l:List Nat}:AV.ids base (.lp a b) l=l:=rfl
theorem zids_sn {a:Nat}{cap:ACap}{base:Nat}{l:List Nat}:AV.ids base (.sl none a cap) l=l:=rfl
theorem zids_nf {base:Nat}{l:List Nat}:AV.ids base .nilfn l=l:=rfl
theorem zids_ni {base:Nat}{l:List Nat}:AV.ids base .nilif l=l:=rfl
theorem zren_b {x:Bool}{base nb:Nat}{l:List Nat}:AV.ren base nb l (.b x)=some (.b x):=rfl
theorem zren_i {k:IntKind}{n:Int}{base nb:Nat}{l:List Nat}:AV.ren base nb l (.i k n)=some (.i k n):=rfl
theorem zren_f {k:FloatKind}{n:Nat}{base nb:Nat}{l:List Nat}:AV.ren base nb l (.f k n)=some (.f k n):=rfl
theorem zren_c {k:FloatKind}{n m:Nat}{base nb:Nat}{l:List Nat}:AV.ren base nb l (.c k n m)=some (.c k n m):=rfl
theorem zren_s {x:ByteArray}{base nb:Nat}{l:List Nat}:AV.ren base nb l (.s x)=some (.s x):=rfl
theorem zren_pn {base nb:Nat}{l:List Nat}:AV.ren base nb l (.p none)=some (.p none):=rfl
theorem zren_lp {a b:Nat}{base nb:Nat}{l:List Nat}:AV.ren base nb l (.lp a b)=some (.lp a b):=rfl
theorem zren_sn {a:Nat}{cap:ACap}{base nb:Nat}{l:List Nat}:AV.ren base nb l (.sl none a cap)=some (.sl none a cap):=rfl
theorem zren_nf {base nb:Nat}{l:List Nat}:AV.ren base nb l .nilfn=some .nilfn:=rfl
theorem zren_ni {base nb:Nat}{l:List Nat}:AV.ren base nb l .nilif=some .nilif:=rfl
theorem zold_b {x:Bool}{n0:Nat}:AV.old n0 (.b x)=true:=rfl
theorem zold_i {k:IntKind}{n:Int}{n0:Nat}:AV.old n0 (.i k n)=true:=rfl
theorem zold_f {k:FloatKind}{n:Nat}{n0:Nat}:AV.old n0 (.f k n)=true:=rfl
theorem zold_c {k:FloatKind}{n m:Nat}{n0:Nat}:AV.old n0 (.c k n m)=true:=rfl
theorem zold_s {x:ByteArray}{n0:Nat}:AV.old n0 (.s x)=true:=rfl
theorem zold_pn {n0:Nat}:AV.old n0 (.p none)=true:=rfl
theorem zold_sn {a:Nat}{cap:ACap}{n0:Nat}:AV.old n0 (.sl none a cap)=true:=rfl
theorem zold_nf {n0:Nat}:AV.old n0 .nilfn=true:=rfl
theorem zold_ni {n0:Nat}:AV.old n0 .nilif=true:=rfl
theorem zlpOk_b {x:Bool}{loc:List (Nat×List AV)}{t:Nat}{r:List (Nat×AV)}:lpOk loc ((t,(.b x))::r)=lpOk loc r:=rfl
theorem zlpOk_i {k:IntKind}{n:Int}{loc:List (Nat×List AV)}{t:Nat}{r:List (Nat×AV)}:lpOk loc ((t,(.i k n))::r)=lpOk loc r:=rfl
theorem zlpOk_f {k:FloatKind}{n:Nat}{loc:List (Nat×List AV)}{t:Nat}{r:List (Nat×AV)}:lpOk loc ((t,(.f k n))::r)=lpOk loc r:=rfl
theorem zlpOk_c {k:FloatKind}{n m:Nat}{loc:List (Nat×List AV)}{t:Nat}{r:List (Nat×AV)}:lpOk loc ((t,(.c k n m))::r)=lpOk loc r:=rfl
theorem zlpOk_s {x:ByteArray}{loc:List (Nat×List AV)}{t:Nat}{r:List (Nat×AV)}:lpOk loc ((t,(.s x))::r)=lpOk loc r:=rfl
theorem zlpOk_pn {loc:List (Nat×List AV)}{t:Nat}{r:List (Nat×AV)}:lpOk loc ((t,(.p none))::r)=lpOk loc r:=rfl
theorem zlpOk_ps {a b:Nat}{loc:List (Nat×List AV)}{t:Nat}{r:List (Nat×AV)}:lpOk loc ((t,(.p (some (a,b))))::r)=lpOk loc r:=rfl
theorem zlpOk_sn {a:Nat}{cap:ACap}{loc:List (Nat×List AV)}{t:Nat}{r:List (Nat×AV)}:lpOk loc ((t,(.sl none a cap))::r)=lpOk loc r:=rfl
theorem zlpOk_ss {a b c:Nat}{cap:ACap}{loc:List (Nat×List AV)}{t:Nat}{r:List (Nat×AV)}:lpOk loc ((t,(.sl (some (a,b)) c cap))::r)=lpOk loc r:=rfl
theorem zlpOk_fn {g:Fn}{x y:List AV}{loc:List (Nat×List AV)}{t:Nat}{r:List (Nat×AV)}:lpOk loc ((t,(.fn g x y))::r)=lpOk loc r:=rfl
theorem zlpOk_nf {loc:List (Nat×List AV)}{t:Nat}{r:List (Nat×AV)}:lpOk loc ((t,.nilfn)::r)=lpOk loc r:=rfl
theorem zlpOk_ni {loc:List (Nat×List AV)}{t:Nat}{r:List (Nat×AV)}:lpOk loc ((t,.nilif)::r)=lpOk loc r:=rfl
theorem zlpOk_ag {cs:List AV}{loc:List (Nat×List AV)}{t:Nat}{r:List (Nat×AV)}:lpOk loc ((t,(.agg cs))::r)=lpOk loc r:=rfl
theorem zlpOk_tu {cs:List AV}{loc:List (Nat×List AV)}{t:Nat}{r:List (Nat×AV)}:lpOk loc ((t,(.tup cs))::r)=lpOk loc r:=rfl
theorem zlpOk_vs {a:Nat}{cap:ACap}{cs:List AV}{loc:List (Nat×List AV)}{t:Nat}{r:List (Nat×AV)}:lpOk loc ((t,(.vs a cap cs))::r)=lpOk loc r:=rfl
theorem zlpOk_vp {cs:List AV}{loc:List (Nat×List AV)}{t:Nat}{r:List (Nat×AV)}:lpOk loc ((t,(.vp cs))::r)=lpOk loc r:=rfl
theorem zcall2 {fl n:Nat}:callFl 2 fl n=bif Nat.beq fl n then n+2 else fl:=rfl
theorem zspl1 {α:Type}{k:Nat}{c:α}{cs:List α}:splice [] k (c::cs)=[]:=rfl
theorem zspl2 {α:Type}{x:α}{l:List α}{k:Nat}{c:α}{cs:List α}:splice (x::l) (k+1) (c::cs)=x::splice l k (c::cs):=rfl
theorem zspl0 {α:Type}{l:List α}{k:Nat}:splice l k []=l:=splice_nil l k
theorem zhid {base f0:Nat}{h:AHeap}{l:List Nat}:hidss base h (f0+1) [] l=l:=rfl
theorem zappn {h:AHeap}{esz:Nat}:appNew h esz .nilif=none:=rfl
def EV0:=PLift.up (And.intro @run_of (And.intro @runC_skip (And.intro @runC_ret (And.intro @runC_exit (And.intro @runC_seq (And.intro @runC_blk (And.intro @runC_reg (And.intro @runC_draw (And.intro @runC_ite (And.intro @runC_cut (And.intro @runC_cutg (And.intro @retK_nil (And.intro @retK_seq (And.intro @retK_seq_ex (And.intro @retK_seq_ret (And.intro @retK_blk (And.intro @retK_blk_ret (And.intro @retK_blk_ex (And.intro @runO_nil (And.intro @runO_cons (And.intro @runD_nil (And.intro @runD_cons (And.intro @evOp_mv (And.intro @evOp_nchk (And.intro @evOp_pop (And.intro @evOp_pick (And.intro @evOp_alloc_true (And.intro @evOp_alloc_false (And.intro @evOp_box_true (And.intro @evOp_box_false (And.intro @evOp_build (And.intro @evOp_bslice (And.intro @evOp_load (And.intro @evOp_store (And.intro @evOp_bin (And.intro @evOp_eqs (And.intro @evOp_eqb (And.intro @evOp_eqnil (And.intro @evOp_un (And.intro @evOp_conv (And.intro @evOp_fadr (And.intro @evOp_fld (And.intro @evOp_iadr (And.intro @evOp_iadra (And.intro @evOp_idx (And.intro @evOp_idxs' (And.intro @evOp_slc (And.intro @evOp_ext (And.intro @evOp_mkf (And.intro @evOp_mks2 (And.intro @evOp_call (And.intro @evOp_len_false (And.intro @evOp_len_true (And.intro @evOp_app (And.intro @evOp_mm (And.intro @happly_nil (And.intro @happly_set (And.intro @happly_del (And.intro @hset_eq @hput_cons)))))))))))))))))))))))))))))))))))))))))))))))))))))))))))
def EV1:=PLift.up (And.intro @hput_nil (And.intro @hdel_cons (And.intro @hdel_nil (And.intro @hget_cons (And.intro @hget_nil (And.intro @fdel_nil (And.intro @fdel_cons (And.intro @nbeq_dec (And.intro @nble_dec (And.intro @nblt_dec (And.intro @List.cons_append.{0} (And.intro @hlook_nil (And.intro @hlook_cons (And.intro @List.length_cons.{0} (And.intro @List.length_nil.{0} (And.intro @Nat.zero_add (And.intro @List.nil_append.{0} (And.intro @xv_t (And.intro @xv_k (And.intro @xn_t (And.intro @xn_kint (And.intro @xn_kb (And.intro @xn_ks (And.intro @xn_ksl (And.intro @xn_kp (And.intro @xn_kfn (And.intro @fget_cons (And.intro @lget_cons (And.intro @lget_nil (And.intro @cond_false.{1} (And.intro @cond_true.{1} (And.intro @bin_and_u (And.intro @bin_or_u (And.intro @bin_xor_u (And.intro @bin_andNot_u (And.intro @bin_add_u (And.intro @bin_sub_u (And.intro @bin_mul_u' (And.intro @un_neg_u' (And.intro @bin_eql_u (And.intro @bin_neq_u (And.intro @bin_gtr0_u (And.intro @bin_add (And.intro @bin_sub (And.intro @bin_mul (And.intro @bin_quo (And.intro @bin_rem (And.intro @bin_eql (And.intro @bin_neq (And.intro @bin_eql8 (And.intro @bin_neq8 (And.intro @bin_lss (And.intro @bin_leq (And.intro @bin_gtr (And.intro @bin_geq (And.intro @bin_and_i (And.intro @bin_or_i (And.intro @bin_xor_i (And.intro @bin_s_eql @bin_s_neq)))))))))))))))))))))))))))))))))))))))))))))))))))))))))))
def EV2:=PLift.up (And.intro @shl_uu' (And.intro @shr_uu' (And.intro @shl_ui (And.intro @shr_ui (And.intro @shl_neg (And.intro @shr_neg (And.intro @un_not (And.intro @un_neg (And.intro @List.map_nil.{0,0} (And.intro @List.any_nil.{0} (And.intro @hhide_nil (And.intro @apart_one (And.intro @apart_row (And.intro @Bool.or_true (And.intro @Bool.true_and (And.intro @Bool.not_false (And.intro @Bool.not_true (And.intro @Bool.or_false (And.intro @Bool.and_true (And.intro @List.getElem?_cons_succ.{0} (And.intro @List.getElem?_cons_zero.{0} (And.intro @List.append_nil.{0} (And.intro @decide_true (And.intro @decide_false (And.intro @Bool.false_eq_true (And.intro @List.drop_zero.{0} (And.intro @List.take_succ_cons.{0} (And.intro @List.take_zero.{0} (And.intro @List.drop_succ_cons.{0} (And.intro @Option.isSome_some.{0} (And.intro @Option.isSome_none.{0} (And.intro @Bool.and_self (And.intro @Bool.cond_self.{1} (And.intro @List.all_cons.{0} (And.intro @List.all_nil.{0} (And.intro @Nat.testBit_eq_decide_div_mod_eq (And.intro @Bool.true_or (And.intro @List.map_cons.{0,0} (And.intro @List.any_cons.{0} (And.intro @List.elem_nil.{0} (And.intro @Bool.false_or (And.intro @Bool.false_and (And.intro @Bool.and_false (And.intro @not_true_eq_false (And.intro @not_false_eq_true (And.intro @conv_u' (And.intro @wrap_iU (And.intro @ofInt_U (And.intro @u64_0 (And.intro @u64_1 (And.intro @Nat.sub_self (And.intro @List.reverse_cons.{0} (And.intro @List.reverse_nil.{0} (And.intro @Nat.add_zero (And.intro @enc_nil (And.intro @aeqs_i (And.intro @aeqs_u (And.intro @aeqs_b (And.intro @aeqs_nil @cond_ff)))))))))))))))))))))))))))))))))))))))))))))))))))))))))))
def EV3:=PLift.up (And.intro @Int.toNat_natCast (And.intro @Nat.mul_one (And.intro @Bool.not_not (And.intro @and_self (And.intro @true_and (And.intro @and_true (And.intro @List.length_set.{0} (And.intro @List.length_append.{0} (And.intro @enc_append (And.intro @Nat.sub_zero (And.intro @Nat.zero_mul (And.intro @List.elem_cons.{0} (And.intro @hnew_nil (And.intro @hnew_cons (And.intro @eq_self.{1} (And.intro @List.length_eq_zero_iff.{0} (And.intro @hhide_nil (And.intro @List.append_eq_nil_iff.{0} (And.intro @evFn.eq_1 (And.intro @gd.eq_1 (And.intro @gd.eq_2 (And.intro @stepOp.eq_1 (And.intro @AS.put.eq_1 (And.intro @Eff.v.eq_1 (And.intro @fput.eq_1 (And.intro @fput.eq_2 (And.intro @fput.eq_3 (And.intro @AS.undef.eq_1 (And.intro @argsFr.eq_1 (And.intro @argsFr.eq_2 (And.intro @outOf.eq_1 (And.intro @aress.eq_1 (And.intro @aress.eq_2 (And.intro @ares.eq_1 (And.intro @ares.eq_2 (And.intro @xns.eq_1 (And.intro @xns.eq_2 (And.intro @AV.islp.eq_1 (And.intro @apartAll.eq_1 (And.intro @apartAll.eq_2 (And.intro @Rec.apart.eq_1 (And.intro @Foot.meets.eq_1 (And.intro @Rec.wl.eq_1 (And.intro @Rec.wh.eq_1 (And.intro @Foot.no.eq_1 (And.intro @Foot.hide.eq_1 (And.intro @hidden.eq_1 (And.intro @hidden.eq_2 (And.intro @callFl.eq_1 (And.intro @callFl.eq_2 (And.intro @AV.cells.eq_1 (And.intro @AS.keep.eq_1 (And.intro @keepT.eq_1 (And.intro @keepT.eq_2 (And.intro @keepL.eq_1 (And.intro @keepL.eq_2 (And.intro @lpOk.eq_1 (And.intro @lpOk.eq_2 (And.intro @splice.eq_1 @splice.eq_3)))))))))))))))))))))))))))))))))))))))))))))))))))))))))))
def EV4:=PLift.up (And.intro @afill.eq_1 (And.intro @afill.eq_2 (And.intro @AV.one.eq_1 (And.intro @AV.one.eq_2 (And.intro @AV.one.eq_3 (And.intro @frz.eq_1 (And.intro @frz.eq_2 (And.intro @frz.eq_3 (And.intro @frz.eq_4 (And.intro @frz.eq_5 (And.intro @frz.eq_6 (And.intro @frz.eq_7 (And.intro @frz.eq_8 (And.intro @frz.eq_9 (And.intro @frz.eq_10 (And.intro @frzs.eq_1 (And.intro @frzs.eq_2 (And.intro @AV.nor.eq_1 (And.intro @AV.nor.eq_2 (And.intro @AV.nor.eq_3 (And.intro @AV.nor.eq_4 (And.intro @AV.nor.eq_5 (And.intro @AV.nor.eq_6 (And.intro @AV.nor.eq_7 (And.intro @AV.nor.eq_8 (And.intro @AV.nors.eq_1 (And.intro @AV.nors.eq_2 (And.intro @AV.nn.eq_1 (And.intro @AV.nn.eq_2 (And.intro @AV.nn.eq_3 (And.intro @AV.nns.eq_1 (And.intro @AV.nns.eq_2 (And.intro @AS.keepG.eq_1 (And.intro @fidss.eq_1 (And.intro @fidss.eq_2 (And.intro @lidss.eq_1 (And.intro @lidss.eq_2 (And.intro @AV.ids.eq_1 (And.intro @AV.ids.eq_2 (And.intro @AV.ids.eq_3 (And.intro @AV.ids.eq_4 (And.intro @AV.ids.eq_5 (And.intro @AV.ids.eq_6 (And.intro @AV.ids.eq_7 (And.intro @AV.idss.eq_1 (And.intro @AV.idss.eq_2 (And.intro @hidss.eq_1 (And.intro @hidss.eq_3 (And.intro @frens.eq_1 (And.intro @frens.eq_2 (And.intro @lrens.eq_1 (And.intro @lrens.eq_2 (And.intro @AV.ren.eq_1 (And.intro @AV.ren.eq_2 (And.intro @AV.ren.eq_3 (And.intro @AV.ren.eq_4 (And.intro @AV.ren.eq_5 (And.intro @AV.ren.eq_6 (And.intro @AV.ren.eq_7 @AV.rens.eq_1)))))))))))))))))))))))))))))))))))))))))))))))))))))))))))
def EV5:=PLift.up (And.intro @AV.rens.eq_2 (And.intro @newId.eq_1 (And.intro @posOf.eq_1 (And.intro @posOf.eq_2 (And.intro @hrens.eq_1 (And.intro @hrens.eq_2 (And.intro @hlow.eq_1 (And.intro @hlow.eq_2 (And.intro @AV.old.eq_1 (And.intro @AV.old.eq_2 (And.intro @AV.old.eq_3 (And.intro @AV.old.eq_4 (And.intro @AV.old.eq_5 (And.intro @AV.old.eq_6 (And.intro @AV.old.eq_7 (And.intro @AV.old.eq_8 (And.intro @AV.olds.eq_1 (And.intro @AV.olds.eq_2 (And.intro @appNew.eq_1 (And.intro @appNew.eq_2 (And.intro @newCells.eq_1 (And.intro @newCells.eq_2 (And.intro @oldCells.eq_1 (And.intro @ownAt.eq_1 (And.intro @hhide.eq_1 (And.intro @hhide.eq_2 (And.intro @ownIds.eq_1 (And.intro @hown.eq_1 (And.intro @hown.eq_2 (And.intro @abound.eq_1 (And.intro @abound.eq_2 (And.intro @slcOff.eq_1 (And.intro @slcOff.eq_2 (And.intro @slcCap.eq_1 (And.intro @slcCap.eq_2 (And.intro @slcCap.eq_3 (And.intro @slcCap.eq_4 (And.intro @slcCapV.eq_1 (And.intro @slcCapV.eq_2 (And.intro @pickm.eq_1 (And.intro @pickm.eq_2 (And.intro @slcOk.eq_1 (And.intro @slcOk.eq_2 (And.intro @zislp_b (And.intro @zislp_i (And.intro @zislp_f (And.intro @zislp_c (And.intro @zislp_s (And.intro @zislp_pn (And.intro @zislp_ps (And.intro @zislp_sn (And.intro @zislp_ss (And.intro @zislp_fn (And.intro @zislp_nf (And.intro @zislp_ni (And.intro @zislp_ag (And.intro @zislp_tu (And.intro @zislp_vs (And.intro @zislp_vp @zcells_b)))))))))))))))))))))))))))))))))))))))))))))))))))))))))))
def EV6:=PLift.up (And.intro @zcells_i (And.intro @zcells_f (And.intro @zcells_c (And.intro @zcells_s (And.intro @zcells_pn (And.intro @zcells_ps (And.intro @zcells_lp (And.intro @zcells_sn (And.intro @zcells_ss (And.intro @zcells_fn (And.intro @zcells_nf (And.intro @zcells_ni (And.intro @zcells_tu (And.intro @zcells_vs (And.intro @zcells_vp (And.intro @zone_b (And.intro @zone_i (And.intro @zone_f (And.intro @zone_c (And.intro @zone_s (And.intro @zone_pn (And.intro @zone_ps (And.intro @zone_sn (And.intro @zone_ss (And.intro @zone_fn (And.intro @zone_nf (And.intro @zone_ni (And.intro @zone_vs (And.intro @zone_vp (And.intro @zfrz_b (And.intro @zfrz_i (And.intro @zfrz_f (And.intro @zfrz_c (And.intro @zfrz_s (And.intro @zfrz_pn (And.intro @zfrz_nf (And.intro @zfrz_ni (And.intro @znor_b (And.intro @znor_i (And.intro @znor_f (And.intro @znor_c (And.intro @znor_s (And.intro @znor_pn (And.intro @znor_sn (And.intro @znor_nf (And.intro @znor_ni (And.intro @znn_b (And.intro @znn_i (And.intro @znn_f (And.intro @znn_c (And.intro @znn_s (And.intro @znn_pn (And.intro @znn_ps (And.intro @znn_lp (And.intro @znn_ss (And.intro @znn_fn (And.intro @znn_nf (And.intro @znn_ni (And.intro @znn_vs @znn_vp)))))))))))))))))))))))))))))))))))))))))))))))))))))))))))
def EV7:=PLift.up (And.intro @zids_b (And.intro @zids_i (And.intro @zids_f (And.intro @zids_c (And.intro @zids_s (And.intro @zids_pn (And.intro @zids_lp (And.intro @zids_sn (And.intro @zids_nf (And.intro @zids_ni (And.intro @zren_b (And.intro @zren_i (And.intro @zren_f (And.intro @zren_c (And.intro @zren_s (And.intro @zren_pn (And.intro @zren_lp (And.intro @zren_sn (And.intro @zren_nf (And.intro @zren_ni (And.intro @zold_b (And.intro @zold_i (And.intro @zold_f (And.intro @zold_c (And.intro @zold_s (And.intro @zold_pn (And.intro @zold_sn (And.intro @zold_nf (And.intro @zold_ni (And.intro @zlpOk_b (And.intro @zlpOk_i (And.intro @zlpOk_f (And.intro @zlpOk_c (And.intro @zlpOk_s (And.intro @zlpOk_pn (And.intro @zlpOk_ps (And.intro @zlpOk_sn (And.intro @zlpOk_ss (And.intro @zlpOk_fn (And.intro @zlpOk_nf (And.intro @zlpOk_ni (And.intro @zlpOk_ag (And.intro @zlpOk_tu (And.intro @zlpOk_vs (And.intro @zlpOk_vp (And.intro @zcall2 (And.intro @zspl1 (And.intro @zspl2 (And.intro @zspl0 (And.intro @zhid @zappn))))))))))))))))))))))))))))))))))))))))))))))))))
end Go.Proofs.YtchgkmdonhdfeaaGreatDoor.Ab
/- Further rules: lists that were appended to, numbers that are told. No condition: lemmas only. -/
set_option linter.unusedVariables false
set_option linter.unusedSimpArgs false
namespace Go.Proofs.YtchgkmdonhdfeaaGreatDoor.Ab
open Go
theorem idss_app {b:Nat}:∀ {xs ys:List AV}{l:List Nat},AV.idss b (xs++ys) l=AV.idss b ys (AV.idss b xs l)
 | [],_,_=>rfl
 |x::xs,ys,l=>by simp only [List.cons_append,AV.idss];exact idss_app
theorem rens_app {b c:Nat}{l:List Nat}:∀ {xs ys:List AV},AV.rens b c l (xs++ys)=match AV.rens b c l xs with
  |some x=>match AV.rens b c l ys with
   |some y=>some (x++y)
   |none=>none
  |none=>none
 | [],ys=>by simp only [List.nil_append,AV.rens];cases AV.rens b c l ys<;>rfl
 |x::xs,ys=>by
  simp only [List.cons_append,AV.rens,rens_app (xs:=xs) (ys:=ys)]
  cases AV.ren b c l x with
  |none=>rfl
  |some x'=>
   cases AV.rens b c l xs with
   |none=>rfl
   |some y=>cases AV.rens b c l ys<;>rfl
theorem olds_app {n:Nat}:∀ {xs ys:List AV},AV.olds n (xs++ys)=(AV.olds n xs&&AV.olds n ys)
 | [],_=>rfl
 |x::xs,ys=>by simp only [List.cons_append,AV.olds,olds_app,Bool.and_assoc]
theorem frzs_app {g:AV→Option AV}:∀ {xs ys:List AV},frzs g (xs++ys)=match frzs g xs with
  |some x=>match frzs g ys with
   |some y=>some (x++y)
   |none=>none
  |none=>none
 | [],ys=>by simp only [List.nil_append,frzs];cases frzs g ys<;>rfl
 |x::xs,ys=>by
  simp only [List.cons_append,frzs,frzs_app (xs:=xs) (ys:=ys)]
  cases g x with
  |none=>rfl
  |some x'=>
   cases frzs g xs with
   |none=>rfl
   |some y=>cases frzs g ys<;>rfl
theorem cast0:((0:Nat):Int)=0:=rfl
theorem cast1:((1:Nat):Int)=1:=rfl
theorem cast2:((2:Nat):Int)=2:=rfl
theorem cast3:((3:Nat):Int)=3:=rfl
theorem cast4:((4:Nat):Int)=4:=rfl
def AV.flat2:AV→Bool
 | .b _ | .i _ _ | .f _ _ | .c _ _ _ | .s _=>true
 |_=>false
theorem frz_flat2 {q:Bool}{base:Nat}{h:AHeap}{f:Nat}{a:AV}(ha:a.flat2=true):frz q base h (f+1) a=some a:=by
 cases a<;>simp [AV.flat2] at ha<;>rfl
theorem frzs_flat2 {q:Bool}{base:Nat}{h:AHeap}{f:Nat}:∀ {l:List AV},l.all AV.flat2=true→frzs (frz q base h (f+1)) l=some l
 | [],_=>rfl
 |x::xs,ha=>by
  simp only [List.all_cons,Bool.and_eq_true] at ha
  simp only [frzs,frz_flat2 ha.1,frzs_flat2 ha.2]
theorem slcOff_op {esz m l o:Nat}:slcOff none .op esz m l o=o+l*esz:=rfl
theorem slcOff_unk {esz m l o:Nat}:slcOff none .unk esz m l o=o+l*esz:=rfl
theorem bin_rem_u {a b:BitVec 64}:abin .rem (.i .u64 (U a)) (.i .u64 (U b))=if b=0#64 then none else some (.i .u64 (U (a % b))):=by
 have e:abin .rem (.i .u64 (U a)) (.i .u64 (U b))=if U b=0 then none else some (.i .u64 ((U a).tmod (U b))):=id rfl
 have h0:U b=0↔b=0#64:=⟨fun h=>BitVec.eq_of_toNat_eq (by unfold U at h;simpa using h),fun h=>by rw [h];rfl⟩
 rw [e]
 by_cases h:b=0#64
 ·rw [if_pos (h0.2 h),if_pos h]
 ·rw [if_neg (fun q=>h (h0.1 q)),if_neg h]
  congr 2
theorem bq_t {b:Bool}:(b==true)=b:=by cases b<;>rfl
theorem bq_f {b:Bool}:(b==false) = !b:=by cases b<;>rfl
theorem t_bq {b:Bool}:(true==b)=b:=by cases b<;>rfl
theorem f_bq {b:Bool}:(false==b) = !b:=by cases b<;>rfl
theorem take_set1 {α:Type}{l:List α}{i:Nat}{x:α}:(l.set i x).take l.length=l.set i x:=List.take_of_length_le (by rw [List.length_set];exact Nat.le_refl _)
theorem take_set2 {α:Type}{l:List α}{i j:Nat}{x y:α}:((l.set i x).set j y).take l.length=(l.set i x).set j y:=List.take_of_length_le (by rw [List.length_set,List.length_set];exact Nat.le_refl _)
theorem take_set3 {α:Type}{l:List α}{i j k:Nat}{x y z:α}:(((l.set i x).set j y).set k z).take l.length=((l.set i x).set j y).set k z:=List.take_of_length_le (by rw [List.length_set,List.length_set,List.length_set];exact Nat.le_refl _)
theorem pkn {α:Type}{l:List α}{j:Int}(h:idx l j=none):idx l j=none∧inb j l.length=false:=⟨h,idx_out h⟩
theorem len_facts {α:Type}{y l:List α}(h:y.length=l.length):y.take l.length=y∧(∀ i x,(y.set i x).take l.length=y.set i x)∧(y=[])=(l=[]):=
 ⟨List.take_of_length_le (Nat.le_of_eq h),fun i x=>List.take_of_length_le (by rw [List.length_set];exact Nat.le_of_eq h),by rw [← List.length_eq_zero_iff,← List.length_eq_zero_iff (l:=l),h]⟩
theorem mp_islp {cs:List AV}:AV.islp (.mp cs)=false:=rfl
theorem mp_cells {cs:List AV}:AV.cells (.mp cs)=[.mp cs]:=rfl
theorem mp_one {cs:List AV}:AV.one (.mp cs)=true:=rfl
theorem mp_nor {cs:List AV}:AV.nor (.mp cs)=AV.nors cs:=by simp only [AV.nor]
theorem mp_nn {cs:List AV}:AV.nn (.mp cs)=.mp cs:=by simp only [AV.nn]
theorem mp_ids {cs:List AV}{b:Nat}{l:List Nat}:AV.ids b (.mp cs) l=AV.idss b cs l:=by simp only [AV.ids]
theorem mp_ren {cs:List AV}{b c:Nat}{l:List Nat}:AV.ren b c l (.mp cs)=match AV.rens b c l cs with|some cs'=>some (.mp cs')|none=>none:=by simp only [AV.ren];cases AV.rens b c l cs<;>rfl
theorem mp_old {cs:List AV}{n:Nat}:AV.old n (.mp cs)=AV.olds n cs:=by simp only [AV.old]
theorem mp_lpOk {loc:List (Nat×List AV)}{t:Nat}{cs:List AV}{r:List (Nat×AV)}:lpOk loc ((t,.mp cs)::r)=lpOk loc r:=rfl
theorem mp_frz {b f:Nat}{h:AHeap}{cs:List AV}:frz true b h (f+1) (.mp cs)=match frzs (frz true b h f) cs with|some cs'=>some (.mp cs')|none=>none:=by simp only [frz,cond_true];cases frzs (frz true b h f) cs<;>rfl
theorem akey_nil {kd:IntKind}{n:Int}:akey kd n []=some none:=rfl
theorem akey_cons {kd:IntKind}{n m:Int}{v:AV}{r:List AV}:akey kd n (.i kd m::v::r)=bif decide (n=m) then some (some v) else akey kd n r:=by
 have:IntKind.same kd kd=true:=by cases kd<;>rfl
 simp only [akey,this,cond_true]
 rfl
theorem noRoom_none {cap:ACap}:noRoom none cap=true:=rfl
theorem noRoom_ex {q:Nat×Nat}{c:Nat}:noRoom (some q) (.ex c)=Nat.beq c 0:=rfl
def EVN:=PLift.up <| And.intro @hlids.eq_1 <| And.intro @hlids.eq_2 <| And.intro @hold.eq_1 <| And.intro @hold.eq_2 <| And.intro @evOp_apf <| And.intro @noRoom_none <| And.intro @noRoom_ex <| And.intro @flOf.eq_1 <| And.intro @mp_islp <| And.intro @mp_cells <| And.intro @mp_one <| And.intro @mp_nor <| And.intro @mp_nn <| And.intro @mp_ids <| And.intro @mp_ren <| And.intro @mp_old <| And.intro @mp_lpOk <| And.intro @mp_frz <| And.intro @akey_nil <| And.intro @akey_cons <| And.intro @evOp_mlk <| And.intro @runC_regm <| And.intro @mkvs.eq_1 <| And.intro @mkvs.eq_2 <| And.intro @mfr.eq_1 <| And.intro @okAll.eq_1 <| And.intro @okAll.eq_2 <| And.intro @befAll.eq_1 <| And.intro @befAll.eq_2 <| And.intro @List.isEmpty_nil.{0} <| And.intro @List.isEmpty_cons.{0} <| And.intro @take_set1 <| And.intro @take_set2 <| And.intro @take_set3 <| And.intro @bq_t <| And.intro @bq_f <| And.intro @t_bq <| And.intro @f_bq <| And.intro @bin_rem_u <| And.intro @slcOff_op <| And.intro @slcOff_unk <| And.intro @List.length_pos_iff.{0} <| And.intro @idss_app <| And.intro @rens_app <| And.intro @olds_app <| And.intro @frzs_app <| And.intro @nors_append <| And.intro @cast0 <| And.intro @cast1 <| And.intro @cast2 <| And.intro @cast3 <| And.intro @cast4 <| And.intro @enc_cons <| And.intro @Nat.le_refl <| And.intro @List.take_length.{0} @List.all_append.{0}
end Go.Proofs.YtchgkmdonhdfeaaGreatDoor.Ab
/- Floats of 64 bits as words: what the plain operations come to. No condition: lemmas only. -/
set_option linter.unusedVariables false
set_option linter.unusedSimpArgs false
namespace Go.Proofs.YtchgkmdonhdfeaaGreatDoor.Ab
open Go
def fb (o:Option Nat):BitVec 64:=match o with|some r=>BitVec.ofNat 64 r|none=>9221120237041090561#64
theorem fval_fb {o:Option Nat}(h:∀ r,o=some r→r<2 ^ 64):fval o=.f .f64 (fb o).toNat:=by
 cases o with
 |none=>rfl
 |some r=>
  have:=h r rfl
  show AV.f .f64 r=.f .f64 (BitVec.ofNat 64 r).toNat
  rw [BitVec.toNat_ofNat,Nat.mod_eq_of_lt this]
def fAdd (x y:BitVec 64):BitVec 64:=fb (FloatKind.f64.format.add x.toNat y.toNat)
def fSub (x y:BitVec 64):BitVec 64:=fb (FloatKind.f64.format.sub x.toNat y.toNat)
def fMul (x y:BitVec 64):BitVec 64:=fb (FloatKind.f64.format.mul x.toNat y.toNat)
def fQuo (x y:BitVec 64):BitVec 64:=fb (FloatKind.f64.format.div x.toNat y.toNat)
theorem fval_add {x y:BitVec 64}:fval (FloatKind.f64.format.add x.toNat y.toNat)=.f .f64 (fAdd x y).toNat:=fval_fb fun r h=>FloatKind.f64.format.add_lt h
theorem fval_sub {x y:BitVec 64}:fval (FloatKind.f64.format.sub x.toNat y.toNat)=.f .f64 (fSub x y).toNat:=fval_fb fun r h=>FloatKind.f64.format.sub_lt h
theorem fval_mul {x y:BitVec 64}:fval (FloatKind.f64.format.mul x.toNat y.toNat)=.f .f64 (fMul x y).toNat:=fval_fb fun r h=>FloatKind.f64.format.mul_lt h
theorem fval_quo {x y:BitVec 64}:fval (FloatKind.f64.format.div x.toNat y.toNat)=.f .f64 (fQuo x y).toNat:=fval_fb fun r h=>FloatKind.f64.format.div_lt h
theorem apo_add {x y:BitVec 64}:apo (.fbin .add) [.f .f64 x.toNat,.f .f64 y.toNat]=some (.f .f64 (fAdd x y).toNat):=congrArg some fval_add
theorem apo_sub {x y:BitVec 64}:apo (.fbin .sub) [.f .f64 x.toNat,.f .f64 y.toNat]=some (.f .f64 (fSub x y).toNat):=congrArg some fval_sub
theorem apo_mul {x y:BitVec 64}:apo (.fbin .mul) [.f .f64 x.toNat,.f .f64 y.toNat]=some (.f .f64 (fMul x y).toNat):=congrArg some fval_mul
theorem apo_quo {x y:BitVec 64}:apo (.fbin .quo) [.f .f64 x.toNat,.f .f64 y.toNat]=some (.f .f64 (fQuo x y).toNat):=congrArg some fval_quo
def fCmp (op:BinOp)(x y:BitVec 64):Bool:=(fcmpB op (FloatKind.f64.format.order x.toNat y.toNat)).getD false
theorem apo_cmp {op:BinOp}{x y:BitVec 64}(h:(fcmpB op none).isSome=true):apo (.fcmp op) [.f .f64 x.toNat,.f .f64 y.toNat]=some (.b (fCmp op x y)):=by
 unfold fCmp
 show (match fcmpB op (FloatKind.f64.format.order x.toNat y.toNat) with|some b=>some (AV.b b)|none=>none)=_
 cases op<;>first|rfl|(simp [fcmpB] at h)
theorem apo_eql {x y:BitVec 64}:apo (.fcmp .eql) [.f .f64 x.toNat,.f .f64 y.toNat]=some (.b (fCmp .eql x y)):=apo_cmp rfl
theorem apo_neq {x y:BitVec 64}:apo (.fcmp .neq) [.f .f64 x.toNat,.f .f64 y.toNat]=some (.b (fCmp .neq x y)):=apo_cmp rfl
theorem apo_lss {x y:BitVec 64}:apo (.fcmp .lss) [.f .f64 x.toNat,.f .f64 y.toNat]=some (.b (fCmp .lss x y)):=apo_cmp rfl
theorem apo_leq {x y:BitVec 64}:apo (.fcmp .leq) [.f .f64 x.toNat,.f .f64 y.toNat]=some (.b (fCmp .leq x y)):=apo_cmp rfl
theorem apo_gtr {x y:BitVec 64}:apo (.fcmp .gtr) [.f .f64 x.toNat,.f .f64 y.toNat]=some (.b (fCmp .gtr x y)):=apo_cmp rfl
theorem apo_geq {x y:BitVec 64}:apo (.fcmp .geq) [.f .f64 x.toNat,.f .f64 y.toNat]=some (.b (fCmp .geq x y)):=apo_cmp rfl
def cEq (a b x y:BitVec 64):Bool:=fCmp .eql a x&&fCmp .eql b y
theorem apo_ceq {a b x y:BitVec 64}:apo (.ceq false) [.c .f64 a.toNat b.toNat,.c .f64 x.toNat y.toNat]=some (.b (cEq a b x y)):=rfl
theorem apo_cne {a b x y:BitVec 64}:apo (.ceq true) [.c .f64 a.toNat b.toNat,.c .f64 x.toNat y.toNat]=some (.b (!cEq a b x y)):=rfl
def fNeg (x:BitVec 64):BitVec 64:=x ^^^ 9223372036854775808#64
theorem fneg_nat {x:BitVec 64}:Op.negFloat .f64 x.toNat=(fNeg x).toNat:=by
 unfold Op.negFloat fNeg
 rw [BitVec.toNat_xor]
 rfl
theorem apo_neg {x:BitVec 64}:apo .fneg [.f .f64 x.toNat]=some (.f .f64 (fNeg x).toNat):=by
 show some (AV.f .f64 (Op.negFloat .f64 x.toNat))=_
 rw [fneg_nat]
theorem apo_re {x y:Nat}:apo .re [.c .f64 x y]=some (.f .f64 x):=rfl
theorem apo_im {x y:Nat}:apo .im [.c .f64 x y]=some (.f .f64 y):=rfl
theorem apo_mk {x y:Nat}:apo .mk [.f .f64 x,.f .f64 y]=some (.c .f64 x y):=rfl
def fOfI (n:Int):BitVec 64:=BitVec.ofNat 64 (FloatKind.f64.nearest n)
theorem fofi_nat {n:Int}:FloatKind.f64.nearest n=(fOfI n).toNat:=by
 unfold fOfI
 rw [BitVec.toNat_ofNat,Nat.mod_eq_of_lt]
 exact FloatKind.f64.format.write_lt (.number (n<0) n.natAbs 0)
theorem apo_ofi {k:IntKind}{n:Int}:apo .ofi [.i k n]=some (.f .f64 (fOfI n).toNat):=by
 show some (AV.f .f64 (FloatKind.f64.nearest n))=_
 rw [fofi_nat]
def fNaN (x:BitVec 64):Bool:=(FloatKind.f64.format.read x.toNat).isNaN
theorem apo_bits {x:BitVec 64}:apo .fbits [.f .f64 x.toNat]=bif fNaN x then none else some (.i .u64 (U x)):=rfl
theorem apo_from {x:BitVec 64}:apo .ffrom [.i .u64 (U x)]=some (.f .f64 x.toNat):=rfl
theorem xn_kf {fr:List (Nat×AV)}{k:FloatKind}{m:Nat}:xn fr (.k (.f k m))=some (.f k m):=rfl
theorem xn_kc {fr:List (Nat×AV)}{k:FloatKind}{m n:Nat}:xn fr (.k (.c k m n))=some (.c k m n):=rfl
theorem bin_lss_u {a b:BitVec 64}:abin .lss (.i .u64 (U a)) (.i .u64 (U b))=some (.b (decide (U a<U b))):=rfl
theorem bin_leq_u {a b:BitVec 64}:abin .leq (.i .u64 (U a)) (.i .u64 (U b))=some (.b (decide (U a≤U b))):=rfl
theorem bin_geq_u {a b:BitVec 64}:abin .geq (.i .u64 (U a)) (.i .u64 (U b))=some (.b (decide (U a≥U b))):=rfl
theorem bin_gtr_un {a:BitVec 64}{n:Nat}:abin .gtr (.i .u64 (U a)) (.i .u64 (U (BitVec.ofNat 64 (n+1))))=some (.b (decide (U a>U (BitVec.ofNat 64 (n+1))))):=rfl
theorem shl_iu {a:Int}{b:BitVec 64}:abin .shl (.i .i64 a) (.i .u64 (U b))=some (.i .i64 (IntKind.i64.wrap (a*2 ^ (min (U b).toNat 64)))):=by
 show (if U b<0 then none else some (AV.i .i64 (IntKind.i64.wrap (a*2 ^ (min (U b).toNat 64)))))=_
 rw [if_neg (by show ¬ ((b.toNat:Nat):Int)<0;omega)]
theorem shl_ii {a y:Int}(h:¬ y<0):abin .shl (.i .i64 a) (.i .i64 y)=some (.i .i64 (IntKind.i64.wrap (a*2 ^ (min y.toNat 64)))):=by
 show (if y<0 then none else some (AV.i .i64 (IntKind.i64.wrap (a*2 ^ (min y.toNat 64)))))=_
 rw [if_neg h]
theorem shr_iu {a:Int}{b:BitVec 64}:abin .shr (.i .i64 a) (.i .u64 (U b))=some (.i .i64 (a.fdiv (2 ^ (min (U b).toNat 64)))):=by
 show (if U b<0 then none else some (AV.i .i64 (a.fdiv (2 ^ (min (U b).toNat 64)))))=_
 rw [if_neg (by show ¬ ((b.toNat:Nat):Int)<0;omega)]
theorem shr_ii {a y:Int}(h:¬ y<0):abin .shr (.i .i64 a) (.i .i64 y)=some (.i .i64 (a.fdiv (2 ^ (min y.toNat 64)))):=by
 show (if y<0 then none else some (AV.i .i64 (a.fdiv (2 ^ (min y.toNat 64)))))=_
 rw [if_neg h]
theorem slcCapV_unk {m l:Nat}:slcCapV none .unk m l=.unk:=rfl
theorem aeqs_fc {a b:BitVec 64}{bs:List Nat}{xs ys:List AV}:aeqs (2::bs) (.f .f64 a.toNat::xs) (.f .f64 b.toNat::ys)=match aeqs bs xs ys with|some r=>some (fCmp .eql a b&&r)|none=>if fCmp .eql a b=true then none else some false:=aeqs_f
def EVF:=PLift.up <| And.intro @aeqs_fc <| And.intro @Nat.le_zero_eq <| And.intro @xn_kf <| And.intro @xn_kc <| And.intro @bin_lss_u <| And.intro @bin_leq_u <| And.intro @bin_geq_u <| And.intro @bin_gtr_un <| And.intro @shl_iu <| And.intro @shl_ii <| And.intro @shr_iu <| And.intro @shr_ii <| And.intro @slcCapV_unk <| And.intro @fval_add <| And.intro @fval_sub <| And.intro @fval_mul <| And.intro @fval_quo <| And.intro @apo_add <| And.intro @apo_sub <| And.intro @apo_mul <| And.intro @apo_quo <| And.intro @apo_eql <| And.intro @apo_neq <| And.intro @apo_lss <| And.intro @apo_leq <| And.intro @apo_gtr <| And.intro @apo_geq <| And.intro @apo_ceq <| And.intro @apo_cne <| And.intro @apo_neg <| And.intro @apo_re <| And.intro @apo_im <| And.intro @apo_mk <| And.intro @apo_ofi <| And.intro @apo_bits @apo_from
end Go.Proofs.YtchgkmdonhdfeaaGreatDoor.Ab
