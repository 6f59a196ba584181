/- Arguments that came in, told by contents: a slice of whole numbers, an action, a slice of actions. No condition: lemmas only. -/
import Derived.Test.YtlgmimclpmolmaaGreatDoorFq
set_option maxRecDepth 100000
set_option linter.unusedVariables false
set_option linter.unusedSimpArgs false
namespace Go.Proofs.YtlgmimclpmolmaaGreatDoor.Ab
open Go Go.RowKit Go.ChangeShapes Go.WideShapes Go.Deep Go.Joins
def cI (x:Int):List AV:=[.i .i64 x]
theorem enc_each {A:Type}{f:A→List AV}{k:Nat}(hk:∀ a,(f a).length=k){R:Nat→AV→Prop}:∀ (l:List A) (k0:Nat),(∀ i p,l[i]? = some p→∀ j v,(f p)[j]? = some v→R (k0+(i*k+j)) v)→∀ n v,(enc f l)[n]? = some v→R (k0+n) v
 | [],_,_,n,v,h=>by simp [enc] at h
 |p::l,k0,H,n,v,h=>by
  have e:enc f (p::l)=f p++enc f l:=rfl
  rw [e] at h
  by_cases hn:n<k
  ·rw [List.getElem?_append_left (by rw [hk];omega)] at h
   have:=H 0 p rfl n v h
   simpa using this
  ·rw [List.getElem?_append_right (by rw [hk];omega),hk] at h
   have:=enc_each hk l (k0+k) (fun i q hi j w hw=>by
    have:=H (i+1) q (by simpa using hi) j w hw
    rwa [show k0+((i+1)*k+j)=k0+k+(i*k+j) by rw [Nat.add_mul];omega] at this) (n-k) v h
   rwa [show k0+k+(n-k)=k0+n by omega] at this
theorem list_of' {A:Type}{Q:Nat→A→Prop}:∀ n,(∀ i,i<n→∃ p,Q i p)→∃ l:List A,l.length=n∧∀ i p,l[i]? = some p→Q i p
 |0,_=>⟨[],rfl,fun i p h=>by simp at h⟩
 |n+1,h=>by
  obtain ⟨l,h1,h2⟩:=list_of' n (fun i hi=>h i (by omega))
  obtain ⟨p,hp⟩:=h n (by omega)
  refine ⟨l++[p],by simp [h1],fun i q hq=>?_⟩
  by_cases hi:i<n
  ·rw [List.getElem?_append_left (by omega)] at hq;exact h2 i q hq
  ·rw [List.getElem?_append_right (by omega)] at hq
   have:i-l.length=0:=by
    rcases Nat.eq_zero_or_pos (i-l.length) with e|e
    ·exact e
    ·rw [List.getElem?_eq_none (by simp;omega)] at hq;cases hq
   rw [this] at hq
   simp at hq
   subst hq
   rwa [show i=n by omega]
def SlC (W:World)(c:Value)(len:Nat)(cs:List AV):Prop:=
 (c=.slice none 0 0∧len=0∧cs=[])∨∃ b o sp cap,c=.slice (some ⟨b,o,sp⟩) len cap∧(0<cap→sp=none)∧len≤cap∧∀ i v,cs[i]? = some v→∃ u,W.cell? ⟨b,o+i,none⟩=some u∧VRel (thW W) v u
theorem vals_ofT {W:World}{b:Nat}:∀ (cs:List AV) (o:Nat),(∀ i v,cs[i]? = some v→∃ u,W.cell? ⟨b,o+i,none⟩=some u∧VRel (thW W) v u)→∃ us:List Value,(∀ (i:Nat) (u:Value),us[i]? = some u→W.cell? ⟨b,o+i,none⟩=some u)∧VRels (thW W) cs us
 | [],o,_=>⟨[],fun i u e=>by simp at e,by unfold VRels;rfl⟩
 |v::cs,o,h=>by
  obtain ⟨u,h1,h2⟩:=h 0 v rfl
  obtain ⟨us,h3,h4⟩:=vals_ofT cs (o+1) (fun i w hw=>by
   have:=h (i+1) w (by simpa using hw)
   rwa [show o+(i+1)=o+1+i by omega] at this)
  refine ⟨u::us,fun i w hw=>?_,by unfold VRels;exact ⟨_,_,rfl,h2,h4⟩⟩
  match i,hw with
  |0,hw=>simp at hw;subst hw;exact h1
  |i+1,hw=>
   have:=h3 i w (by simpa using hw)
   rwa [show o+(i+1)=o+1+i by omega]
theorem SlC.vr {W:World}{c:Value}{len:Nat}{cs:List AV}(h:SlC W c len cs)(hn:AV.nors cs=true):VRel (thW W) (.vs len .unk cs) c:=by
 unfold VRel
 rcases h with ⟨rfl,rfl,rfl⟩|⟨b,o,sp,cap,rfl,hs,h1,h3⟩
 ·exact .inr ⟨rfl,rfl,rfl,trivial⟩
 ·obtain ⟨us,h4,h5⟩:=vals_ofT _ _ h3
  exact .inl ⟨b,o,sp,cap,us,rfl,hs,h1,trivial,h4,hn,h5⟩
def SlIntIn (W:World)(c:Value)(q:List Int):Prop:=SlC W c q.length (enc cI q)
theorem nors_cI (q:List Int):AV.nors (enc cI q)=true:=enc_nors (fun _=>rfl) q
theorem sl_vsI {W:World}{c:Value}{q:List Int}(h:SlIntIn W c q):VRel (thW W) (.vs q.length .unk (enc cI q)) c:=h.vr (nors_cI q)
theorem ints_cell {H:Type}{enc:TypeId×Value→H}{W:World}{n:Nat}{cs:List Value}{y:DataW H×List MemPlace}(h:DataW.trod enc Tryz.prog W 0 (fun _=>true) true n 47 cs=some y) :
  ∃ c q,cs=[c]∧SlIntIn W c q∧((DataW.weights Tryz.prog 47 y.1).all (·≤reachBytes)=true→q.length*8≤140737488355328):=by
 have hC:Tryz.prog.cellsOf 3=1:=by kernel_rfl
 rcases open_slice Tryz.underlying47 h with ⟨hc,_⟩|⟨a,len,cap,m,k,D,Pc,hc,_,hl,_,hm,hy,hi⟩
 ·exact ⟨_,[],hc,.inl ⟨rfl,rfl,rfl⟩,fun _=>by simp⟩
 ·obtain ⟨b,o,sp⟩:=a
  have hm':m=cap:=by simpa using hm
  subst hm'
  rw [hC] at hi
  have hsp:0<m→sp=none:=fun hp=>by
   obtain ⟨cs',hc',_⟩:=hi 0 hp
   obtain ⟨_,hcl,hat⟩:=World.cells?_some hc'
   have h0:=hat 0 (by omega)
   have hv:cs'[0]? = some (cs'[0]'(by omega)):=List.getElem?_eq_getElem (by omega)
   rw [hv] at h0
   exact World.cell?_spot h0
  obtain ⟨q,hq,hqq⟩:=list_of' (Q:=fun i p=>W.cell? ⟨b,o+i,none⟩=some (.int .i64 p)) len (fun i hil=>by
   have hn:=hsp (by omega)
   subst hn
   obtain ⟨cs',hc',ht⟩:=hi i (by omega)
   obtain ⟨p,e,_,_⟩:=DataW.trod_int Tryz.underlying3 ht
   obtain ⟨_,hcl,hat⟩:=World.cells?_some hc'
   have h0:=hat 0 (by omega)
   rw [e] at h0
   refine ⟨p,?_⟩
   have ad:((⟨b,o,none⟩:Addr).add (i*1)).add 0=⟨b,o+i,none⟩:=by rw [add_off,add_off];simp
   rw [ad] at h0
   exact h0)
  refine ⟨_,q,hc,.inr ⟨b,o,sp,m,by rw [hq],hsp,by omega,fun i v hv=>?_⟩,fun hw=>?_⟩
  ·have:=enc_each (f:=cI) (k:=1) (fun _=>rfl) (R:=fun k v=>∃ u,W.cell? ⟨b,o+k,none⟩=some u∧VRel (thW W) v u) q 0 (fun i p hp j v hv=>by
    match j,hv with
    |0,hv=>simp [cI] at hv;subst hv;exact ⟨_,by simpa using hqq i p hp,by simp only [VRel]⟩
    |j+1,hv=>simp [cI] at hv) i v hv
   simpa using this
  ·have hb:Tryz.prog.bytesOf 3=8:=by kernel_rfl
   rw [hy] at hw
   simp only [DataW.weights,Tryz.underlying47,List.all_cons,Bool.and_eq_true,decide_eq_true_eq,List.length_map,List.length_range,hb] at hw
   have h1:=hw.1
   have hr:reachBytes=140737488351232:=rfl
   rw [hr] at h1
   rw [hq]
   have h2:len*8≤(len+(m-len))*8:=Nat.mul_le_mul_right _ (Nat.le_add_right _ _)
   omega
theorem cells_sl {v c:Value}{a:Option Addr}{l k:Nat}(h:v.cells.toList=[c])(hv:∃ a l k,v=.slice a l k):v=c:=by
 obtain ⟨a,l,k,rfl⟩:=hv
 simpa [Value.cells] using h
theorem ints_read {H:Type}{enc:TypeId×Value→H}{W:World}{base:Nat}{v:Value}{d:DataW H}{p:List MemPlace}(hval:Value.okWide Tryz.prog W .any base 47 v)(h:DataW.Trod enc Tryz.prog W 0 (fun _=>true) true 47 v d p) :
  ∃ q,SlIntIn W v q∧((DataW.weights Tryz.prog 47 d).all (·≤reachBytes)=true→q.length*8≤140737488355328):=by
 obtain ⟨fuel,hf⟩:=h
 obtain ⟨c,q,e,h1,h2⟩:=ints_cell hf
 have hv:v=c:=by
  cases v<;>simp [Value.cells] at e<;>first|exact e|skip
  rename_i cs
  simp [Value.okWide,Cell.okWide,Cell.ok,Tryz.underlying47] at hval
 subst hv
 exact ⟨q,h1,h2⟩
theorem weightsAll_mem {H:Type}{P:Program}{e:TypeId}{f:Nat→Bool}:∀ {l:List (DataW H)},(DataW.weightsAll P e l).all f=true→∀ d,d∈l→(DataW.weights P e d).all f=true
 | [],_,d,hd=>by cases hd
 |x::l,h,d,hd=>by
  simp only [DataW.weightsAll,List.all_append,Bool.and_eq_true] at h
  rcases List.mem_cons.1 hd with rfl|hd
  ·exact h.1
  ·exact weightsAll_mem h.2 d hd
end Go.Proofs.YtlgmimclpmolmaaGreatDoor.Ab
