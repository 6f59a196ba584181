/- Arguments that came in, told by contents: a slice of floats. No condition: lemmas only. -/
import Derived.Test.YtbbikmfjnanpmaaDoorFg
set_option maxRecDepth 100000
set_option linter.unusedVariables false
set_option linter.unusedSimpArgs false
namespace Go.Proofs.YtbbikmfjnanpmaaDoor.Ab
open Go Go.RowKit Go.ChangeShapes Go.WideShapes Go.Deep Go.Joins
def cF (x:BitVec 64):List AV:=[.f .f64 x.toNat]
theorem vr_float (θ:Th)(x:BitVec 64):VRel θ (.f .f64 x.toNat) (.float .f64 x.toNat):=by
 unfold VRel
 exact ⟨_,rfl,.inl rfl⟩
theorem trod_float {H:Type}{enc:TypeId×Value→H}{P:Program}{w:World}{base:Nat}{spare:Nat→Bool}{held:Bool}{fuel:Nat}{t:TypeId}{cs:List Value}{x:DataW H×List MemPlace}(ht:P.underlying t=some (.float .f64))(h:DataW.trod enc P w base spare held fuel t cs=some x) :
  ∃ b:BitVec 64,cs=[.float .f64 b.toNat]∧x=(.lit (.float .f64 b.toNat),[]):=by
 have:∃ b,cs=[.float .f64 b]∧x=(.lit (.float .f64 b),[])∧(Lit.float .f64 b).wf=true:=by
  cases fuel with
  |zero=>simp [DataW.trod] at h
  |succ n=>
   unfold DataW.trod at h
   rw [ht] at h
   split at h<;>simp_all
 obtain ⟨b,h1,h2,h3⟩:=this
 have h4:b<2 ^ 64:=by simpa [Lit.wf] using h3
 have e:(BitVec.ofNat 64 b).toNat=b:=by rw [BitVec.toNat_ofNat,Nat.mod_eq_of_lt h4]
 exact ⟨BitVec.ofNat 64 b,by rw [e];exact h1,by rw [e];exact h2⟩
def SlFlIn (W:World)(c:Value)(q:List (BitVec 64)):Prop:=SlC W c q.length (enc cF q)
theorem nors_cF (q:List (BitVec 64)):AV.nors (enc cF q)=true:=enc_nors (fun _=>rfl) q
theorem sl_vsF {W:World}{c:Value}{q:List (BitVec 64)}(h:SlFlIn W c q):VRel (thW W) (.vs q.length .unk (enc cF q)) c:=h.vr (nors_cF q)
theorem floats_cell {H:Type}{enc:TypeId×Value→H}{W:World}{n:Nat}{cs:List Value}{y:DataW H×List MemPlace}(h:DataW.trod enc Tryd.prog W 0 (fun _=>true) true n 44 cs=some y) :
  ∃ c q,cs=[c]∧SlFlIn W c q∧((DataW.weights Tryd.prog 44 y.1).all (·≤reachBytes)=true→q.length*8≤140737488355328):=by
 have hC:Tryd.prog.cellsOf 43=1:=by kernel_rfl
 rcases open_slice Tryd.underlying44 h with ⟨hc,_⟩|⟨a,len,cap,m,k,D,Pc,hc,_,hl,_,hm,hy,hi⟩
 ·exact ⟨_,[],hc,.inl ⟨rfl,rfl,rfl⟩,fun _=>by simp⟩
 ·obtain ⟨b,o,sp⟩:=a
  have hm':m=cap:=by simpa using hm
  subst hm'
  rw [hC] at hi
  have hsp:0<m→sp=none:=fun hp=>by
   obtain ⟨cs',hc',_⟩:=hi 0 hp
   obtain ⟨_,hcl,hat⟩:=World.cells?_some hc'
   have h0:=hat 0 (by omega)
   have hv:cs'[0]? = some (cs'[0]'(by omega)):=List.getElem?_eq_getElem (by omega)
   rw [hv] at h0
   exact World.cell?_spot h0
  obtain ⟨q,hq,hqq⟩:=list_of' (Q:=fun i p=>W.cell? ⟨b,o+i,none⟩=some (.float .f64 (p:BitVec 64).toNat)) len (fun i hil=>by
   have hn:=hsp (by omega)
   subst hn
   obtain ⟨cs',hc',ht⟩:=hi i (by omega)
   obtain ⟨p,e,_⟩:=trod_float Tryd.underlying43 ht
   obtain ⟨_,hcl,hat⟩:=World.cells?_some hc'
   have h0:=hat 0 (by omega)
   rw [e] at h0
   refine ⟨p,?_⟩
   have ad:((⟨b,o,none⟩:Addr).add (i*1)).add 0=⟨b,o+i,none⟩:=by rw [add_off,add_off];simp
   rw [ad] at h0
   exact h0)
  refine ⟨_,q,hc,.inr ⟨b,o,sp,m,by rw [hq],hsp,by omega,fun i v hv=>?_⟩,fun hw=>?_⟩
  ·have:=enc_each (f:=cF) (k:=1) (fun _=>rfl) (R:=fun k v=>∃ u,W.cell? ⟨b,o+k,none⟩=some u∧VRel (thW W) v u) q 0 (fun i p hp j v hv=>by
    match j,hv with
    |0,hv=>simp [cF] at hv;subst hv;exact ⟨_,by simpa using hqq i p hp,vr_float _ _⟩
    |j+1,hv=>simp [cF] at hv) i v hv
   simpa using this
  ·have hb:Tryd.prog.bytesOf 43=8:=by kernel_rfl
   rw [hy] at hw
   simp only [DataW.weights,Tryd.underlying44,List.all_cons,Bool.and_eq_true,decide_eq_true_eq,List.length_map,List.length_range,hb] at hw
   have h1:=hw.1
   have hr:reachBytes=140737488351232:=rfl
   rw [hr] at h1
   rw [hq]
   have h2:len*8≤(len+(m-len))*8:=Nat.mul_le_mul_right _ (Nat.le_add_right _ _)
   omega
theorem floats_read {H:Type}{enc:TypeId×Value→H}{W:World}{base:Nat}{v:Value}{d:DataW H}{p:List MemPlace}(hval:Value.okWide Tryd.prog W .any base 44 v)(h:DataW.Trod enc Tryd.prog W 0 (fun _=>true) true 44 v d p) :
  ∃ q,SlFlIn W v q∧((DataW.weights Tryd.prog 44 d).all (·≤reachBytes)=true→q.length*8≤140737488355328):=by
 obtain ⟨fuel,hf⟩:=h
 obtain ⟨c,q,e,h1,h2⟩:=floats_cell hf
 have hv:v=c:=by
  cases v<;>simp [Value.cells] at e<;>first|exact e|skip
  rename_i cs
  simp [Value.okWide,Cell.okWide,Cell.ok,Tryd.underlying44] at hval
 subst hv
 exact ⟨q,h1,h2⟩
theorem flt_read {H:Type}{enc:TypeId×Value→H}{W:World}{base:Nat}{v:Value}{d:DataW H}{p:List MemPlace}(hval:Value.okWide Tryd.prog W .any base 43 v)(h:DataW.Trod enc Tryd.prog W 0 (fun _=>true) true 43 v d p) :
  ∃ b:BitVec 64,v=.float .f64 b.toNat:=by
 obtain ⟨fuel,hf⟩:=h
 obtain ⟨b,e,_⟩:=trod_float Tryd.underlying43 hf
 have hv:v=.float .f64 b.toNat:=by
  cases v<;>simp [Value.cells] at e<;>first|exact e|(obtain ⟨rfl,rfl⟩:=e;rfl)|skip
  rename_i cs
  simp [Value.okWide,Cell.okWide,Cell.ok,Tryd.underlying43] at hval
 exact ⟨b,hv⟩
end Go.Proofs.YtbbikmfjnanpmaaDoor.Ab
