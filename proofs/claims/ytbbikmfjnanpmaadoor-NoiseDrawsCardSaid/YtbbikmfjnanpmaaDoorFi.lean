/- Arguments that came in, told by contents: a slice of whole numbers. No condition: lemmas only. -/
import Derived.Test.YtbbikmfjnanpmaaDoorFg
set_option maxRecDepth 100000
set_option linter.unusedVariables false
set_option linter.unusedSimpArgs false
namespace Go.Proofs.YtbbikmfjnanpmaaDoor.Ab
open Go Go.RowKit Go.ChangeShapes Go.WideShapes Go.Deep Go.Joins
def cI (x:Int):List AV:=[.i .i64 x]
def SlIntIn (W:World)(c:Value)(q:List Int):Prop:=SlC W c q.length (enc cI q)
theorem nors_cI (q:List Int):AV.nors (enc cI q)=true:=enc_nors (fun _=>rfl) q
theorem sl_vsI {W:World}{c:Value}{q:List Int}(h:SlIntIn W c q):VRel (thW W) (.vs q.length .unk (enc cI q)) c:=h.vr (nors_cI q)
theorem ints_cell {H:Type}{enc:TypeId×Value→H}{W:World}{n:Nat}{cs:List Value}{y:DataW H×List MemPlace}(h:DataW.trod enc Tryd.prog W 0 (fun _=>true) true n 38 cs=some y) :
  ∃ c q,cs=[c]∧SlIntIn W c q∧((DataW.weights Tryd.prog 38 y.1).all (·≤reachBytes)=true→q.length*8≤140737488355328):=by
 have hC:Tryd.prog.cellsOf 3=1:=by kernel_rfl
 rcases open_slice Tryd.underlying38 h with ⟨hc,_⟩|⟨a,len,cap,m,k,D,Pc,hc,_,hl,_,hm,hy,hi⟩
 ·exact ⟨_,[],hc,.inl ⟨rfl,rfl,rfl⟩,fun _=>by simp⟩
 ·obtain ⟨b,o,sp⟩:=a
  have hm':m=cap:=by simpa using hm
  subst hm'
  rw [hC] at hi
  have hsp:0<m→sp=none:=fun hp=>by
   obtain ⟨cs',hc',_⟩:=hi 0 hp
   obtain ⟨_,hcl,hat⟩:=World.cells?_some hc'
   have h0:=hat 0 (by omega)
   have hv:cs'[0]? = some (cs'[0]'(by omega)):=List.getElem?_eq_getElem (by omega)
   rw [hv] at h0
   exact World.cell?_spot h0
  obtain ⟨q,hq,hqq⟩:=list_of' (Q:=fun i p=>W.cell? ⟨b,o+i,none⟩=some (.int .i64 p)) len (fun i hil=>by
   have hn:=hsp (by omega)
   subst hn
   obtain ⟨cs',hc',ht⟩:=hi i (by omega)
   obtain ⟨p,e,_,_⟩:=DataW.trod_int Tryd.underlying3 ht
   obtain ⟨_,hcl,hat⟩:=World.cells?_some hc'
   have h0:=hat 0 (by omega)
   rw [e] at h0
   refine ⟨p,?_⟩
   have ad:((⟨b,o,none⟩:Addr).add (i*1)).add 0=⟨b,o+i,none⟩:=by rw [add_off,add_off];simp
   rw [ad] at h0
   exact h0)
  refine ⟨_,q,hc,.inr ⟨b,o,sp,m,by rw [hq],hsp,by omega,fun i v hv=>?_⟩,fun hw=>?_⟩
  ·have:=enc_each (f:=cI) (k:=1) (fun _=>rfl) (R:=fun k v=>∃ u,W.cell? ⟨b,o+k,none⟩=some u∧VRel (thW W) v u) q 0 (fun i p hp j v hv=>by
    match j,hv with
    |0,hv=>simp [cI] at hv;subst hv;exact ⟨_,by simpa using hqq i p hp,by simp only [VRel]⟩
    |j+1,hv=>simp [cI] at hv) i v hv
   simpa using this
  ·have hb:Tryd.prog.bytesOf 3=8:=by kernel_rfl
   rw [hy] at hw
   simp only [DataW.weights,Tryd.underlying38,List.all_cons,Bool.and_eq_true,decide_eq_true_eq,List.length_map,List.length_range,hb] at hw
   have h1:=hw.1
   have hr:reachBytes=140737488351232:=rfl
   rw [hr] at h1
   rw [hq]
   have h2:len*8≤(len+(m-len))*8:=Nat.mul_le_mul_right _ (Nat.le_add_right _ _)
   omega
theorem ints_read {H:Type}{enc:TypeId×Value→H}{W:World}{base:Nat}{v:Value}{d:DataW H}{p:List MemPlace}(hval:Value.okWide Tryd.prog W .any base 38 v)(h:DataW.Trod enc Tryd.prog W 0 (fun _=>true) true 38 v d p) :
  ∃ q,SlIntIn W v q∧((DataW.weights Tryd.prog 38 d).all (·≤reachBytes)=true→q.length*8≤140737488355328):=by
 obtain ⟨fuel,hf⟩:=h
 obtain ⟨c,q,e,h1,h2⟩:=ints_cell hf
 have hv:v=c:=by
  cases v<;>simp [Value.cells] at e<;>first|exact e|skip
  rename_i cs
  simp [Value.okWide,Cell.okWide,Cell.ok,Tryd.underlying38] at hval
 subst hv
 exact ⟨q,h1,h2⟩
end Go.Proofs.YtbbikmfjnanpmaaDoor.Ab
