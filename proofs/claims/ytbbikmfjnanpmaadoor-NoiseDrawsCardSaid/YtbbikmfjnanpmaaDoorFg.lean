/- Arguments that came in, told by contents: what is alike for all kinds. No condition: lemmas only. -/
import Derived.Test.YtbbikmfjnanpmaaDoorFr
import Derived.Lib.SmallJoins
import Derived.Deep.Slices
import Derived.Deep.Fields
set_option maxRecDepth 100000
set_option linter.unusedVariables false
set_option linter.unusedSimpArgs false
namespace Go.Proofs.YtbbikmfjnanpmaaDoor.Ab
open Go Go.RowKit Go.ChangeShapes Go.WideShapes Go.Deep Go.Joins
theorem u64_of {n:Int}(h:(Lit.int .u64 n).wf=true):∃ x:BitVec 64,n=U x:=by
 have:0≤n∧n≤18446744073709551615:=by
  simp [Lit.wf,IntKind.min,IntKind.max,IntKind.signed,IntKind.bits] at h
  exact h
 refine ⟨BitVec.ofNat 64 n.toNat,?_⟩
 unfold U
 rw [BitVec.toNat_ofNat,Nat.mod_eq_of_lt (by omega)]
 omega
theorem open_slice_fields {H:Type}{enc:TypeId×Value→H}{P:Program}{w:World}{base:Nat}{spare:Nat→Bool}{held:Bool}{t e:TypeId}{fs:Array Field}{fuel:Nat}{cs:List Value}{x:DataW H×List MemPlace}(ht:P.underlying t=some (.slice e))(he:P.underlying e=some (.struct fs))
  (hone:oneCellFields P fs=true) (hC:P.cellsOf e=fs.size) (h:DataW.trod enc P w base spare held fuel t cs=some x) :
  cs=[.slice none 0 0]∨
  ∃ (a:Addr) (len cap m:Nat),cs=[.slice (some a) len cap]∧len≤cap∧m=(if spare a.block then cap else len)∧
   ∀ i,i<m→∃ (ys:List (DataW H×List MemPlace)) (n:Nat),ys.length=fs.size∧
    ∀ (j:Nat) (f:Field),fs[j]? = some f→∃ (v:Value) (y:DataW H×List MemPlace),w.cell? (a.add (i*fs.size+j))=some v∧ys[j]? = some y∧DataW.trod enc P w base spare held n f.type [v]=some y:=by
 rcases open_slice ht h with h0|⟨a,len,cap,m,n,D,Pl,hcs,hb,hl,hm,hmm,hx,hi⟩
 ·exact .inl h0.1
 ·refine .inr ⟨a,len,cap,m,hcs,hl,hmm,fun i him=>?_⟩
  obtain ⟨cs',hc,ht'⟩:=hi i him
  rw [hC] at hc
  obtain ⟨ys,n',hn',hy,hlen,hyl,hf⟩:=DataW.trod_struct he ht'
  obtain ⟨_,hcl,hat⟩:=World.cells?_some hc
  refine ⟨ys,n',hyl,fun j f hj=>?_⟩
  obtain ⟨ho,hk⟩:=hone_of hone j f hj
  have hjl:j<fs.size:=(Array.getElem?_eq_some_iff.1 hj).1
  have hcell:=hat j hjl
  have hv:cs'[j]? = some (cs'[j]'(by omega)):=List.getElem?_eq_getElem (by omega)
  have h1:=hf j f hj
  rw [ho,hk] at h1
  have hone':(cs'.drop j).take 1=[cs'[j]'(by omega)]:=by
   rw [List.drop_eq_getElem_cons (by omega)]
   rfl
  rw [hone'] at h1
  have hys:ys[j]? = some (ys[j]'(by omega)):=List.getElem?_eq_getElem (by omega)
  refine ⟨_,_,?_,hys,h1.trans hys⟩
  rw [← Go.Deep.add_add,hcell,hv]
theorem vr_nil (θ:Th):VRels θ [] []:=by unfold VRels;rfl
theorem vr_cons {θ:Th}{a:AV}{v:Value}{xs:List AV}{vs:List Value}(h1:VRel θ a v)(h2:VRels θ xs vs):VRels θ (a::xs) (v::vs):=by
 unfold VRels
 exact ⟨_,_,rfl,h1,h2⟩
theorem vr_agg {θ:Th}{xs:List AV}{vs:Array Value}(h:VRels θ xs vs.toList):VRel θ (.agg xs) (.agg vs):=by
 unfold VRel
 exact ⟨_,rfl,h⟩
theorem vr_int (θ:Th)(k:IntKind)(n:Int):VRel θ (.i k n) (.int k n):=by unfold VRel;rfl
theorem enc_each {A:Type}{f:A→List AV}{k:Nat}(hk:∀ a,(f a).length=k){R:Nat→AV→Prop}:∀ (l:List A) (k0:Nat),(∀ i p,l[i]? = some p→∀ j v,(f p)[j]? = some v→R (k0+(i*k+j)) v)→∀ n v,(enc f l)[n]? = some v→R (k0+n) v
 | [],_,_,n,v,h=>by simp [enc] at h
 |p::l,k0,H,n,v,h=>by
  have e:enc f (p::l)=f p++enc f l:=rfl
  rw [e] at h
  by_cases hn:n<k
  ·rw [List.getElem?_append_left (by rw [hk];omega)] at h
   have:=H 0 p rfl n v h
   simpa using this
  ·rw [List.getElem?_append_right (by rw [hk];omega),hk] at h
   have:=enc_each hk l (k0+k) (fun i q hi j w hw=>by
    have:=H (i+1) q (by simpa using hi) j w hw
    rwa [show k0+((i+1)*k+j)=k0+k+(i*k+j) by rw [Nat.add_mul];omega] at this) (n-k) v h
   rwa [show k0+k+(n-k)=k0+n by omega] at this
theorem list_of' {A:Type}{Q:Nat→A→Prop}:∀ n,(∀ i,i<n→∃ p,Q i p)→∃ l:List A,l.length=n∧∀ i p,l[i]? = some p→Q i p
 |0,_=>⟨[],rfl,fun i p h=>by simp at h⟩
 |n+1,h=>by
  obtain ⟨l,h1,h2⟩:=list_of' n (fun i hi=>h i (by omega))
  obtain ⟨p,hp⟩:=h n (by omega)
  refine ⟨l++[p],by simp [h1],fun i q hq=>?_⟩
  by_cases hi:i<n
  ·rw [List.getElem?_append_left (by omega)] at hq;exact h2 i q hq
  ·rw [List.getElem?_append_right (by omega)] at hq
   have:i-l.length=0:=by
    rcases Nat.eq_zero_or_pos (i-l.length) with e|e
    ·exact e
    ·rw [List.getElem?_eq_none (by simp;omega)] at hq;cases hq
   rw [this] at hq
   simp at hq
   subst hq
   rwa [show i=n by omega]
def SlC (W:World)(c:Value)(len:Nat)(cs:List AV):Prop:=
 (c=.slice none 0 0∧len=0∧cs=[])∨∃ b o sp cap,c=.slice (some ⟨b,o,sp⟩) len cap∧(0<cap→sp=none)∧len≤cap∧∀ i v,cs[i]? = some v→∃ u,W.cell? ⟨b,o+i,none⟩=some u∧VRel (thW W) v u
theorem vals_ofT {W:World}{b:Nat}:∀ (cs:List AV) (o:Nat),(∀ i v,cs[i]? = some v→∃ u,W.cell? ⟨b,o+i,none⟩=some u∧VRel (thW W) v u)→∃ us:List Value,(∀ (i:Nat) (u:Value),us[i]? = some u→W.cell? ⟨b,o+i,none⟩=some u)∧VRels (thW W) cs us
 | [],o,_=>⟨[],fun i u e=>by simp at e,by unfold VRels;rfl⟩
 |v::cs,o,h=>by
  obtain ⟨u,h1,h2⟩:=h 0 v rfl
  obtain ⟨us,h3,h4⟩:=vals_ofT cs (o+1) (fun i w hw=>by
   have:=h (i+1) w (by simpa using hw)
   rwa [show o+(i+1)=o+1+i by omega] at this)
  refine ⟨u::us,fun i w hw=>?_,by unfold VRels;exact ⟨_,_,rfl,h2,h4⟩⟩
  match i,hw with
  |0,hw=>simp at hw;subst hw;exact h1
  |i+1,hw=>
   have:=h3 i w (by simpa using hw)
   rwa [show o+(i+1)=o+1+i by omega]
theorem SlC.vr {W:World}{c:Value}{len:Nat}{cs:List AV}(h:SlC W c len cs)(hn:AV.nors cs=true):VRel (thW W) (.vs len .unk cs) c:=by
 unfold VRel
 rcases h with ⟨rfl,rfl,rfl⟩|⟨b,o,sp,cap,rfl,hs,h1,h3⟩
 ·exact .inr ⟨rfl,rfl,rfl,trivial⟩
 ·obtain ⟨us,h4,h5⟩:=vals_ofT _ _ h3
  exact .inl ⟨b,o,sp,cap,us,rfl,hs,h1,trivial,(fun i u hu=>wcell_of (h4 i u hu) (h5.nif hu)),hn,h5⟩
theorem cells_sl {v c:Value}{a:Option Addr}{l k:Nat}(h:v.cells.toList=[c])(hv:∃ a l k,v=.slice a l k):v=c:=by
 obtain ⟨a,l,k,rfl⟩:=hv
 simpa [Value.cells] using h
theorem weightsAll_mem {H:Type}{P:Program}{e:TypeId}{f:Nat→Bool}:∀ {l:List (DataW H)},(DataW.weightsAll P e l).all f=true→∀ d,d∈l→(DataW.weights P e d).all f=true
 | [],_,d,hd=>by cases hd
 |x::l,h,d,hd=>by
  simp only [DataW.weightsAll,List.all_append,Bool.and_eq_true] at h
  rcases List.mem_cons.1 hd with rfl|hd
  ·exact h.1
  ·exact weightsAll_mem h.2 d hd
end Go.Proofs.YtbbikmfjnanpmaaDoor.Ab
