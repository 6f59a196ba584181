/- Functions that are called with contents in place of blocks: cuts that number the blocks anew, calls that find a small memory, and what their word is worth. No condition: definitions and lemmas only. -/
import Derived.Test.YtchgkmdonhdfeaaGreatDoorAB
set_option linter.unusedVariables false
set_option linter.unusedSimpArgs false
namespace Go.Proofs.YtchgkmdonhdfeaaGreatDoor.Ab
open Go
section
variable {O:Orc}{fl:Nat}{r:Res}
theorem op_at {d:Option Nat}{op:AOp}{s:AS}{k:Eff→Foot→Option Res}(hO:OHeir O)(hb:HB s.h s.n)(h:evOp O fl d op s k=some r):∃ e f,stepOp O fl d op s=some (e,f)∧HeirE s e∧k e f=some r:=by
 have h:=evOp_heir hO hb h
 rw [evOp_step] at h
 split at h
 ·rename_i e f hs
  exact ⟨e,f,hs,(kg_of h).1,(kg_of h).2⟩
 ·cases h
theorem op_to {d:Option Nat}{op:AOp}{s:AS}{e:Eff}{f:Foot}(k:Eff→Foot→Option Res)(h:stepOp O fl d op s=some (e,f)):evOp O fl d op s k=k e f:=by
 rw [evOp_step,h]
theorem evOps_end (hO:OHeir O){k:AS→Option Res}:∀ (l:List AOper) (s:AS),HB s.h s.n→evOps O fl l s k=some r→
  ∃ se,k se=some r∧(Heir s.h s.n se.h se.n∧se.n0=s.n0)∧∀ (k':AS→Option Res) (r':Res),k' se=some r'→evOps O fl l s k'=some r'
 | [],s,_,h=>⟨s,h,⟨Heir.refl _ _,rfl⟩,fun k' r' q=>q⟩
 |o::l,s,hb,h=>by
  have run:evOp O fl o.dst o.op s (fun e _=>evOps O fl l (s.put o.dst e) k)=some r→
    ∃ se,k se=some r∧(Heir s.h s.n se.h se.n∧se.n0=s.n0)∧∀ (k':AS→Option Res) (r':Res),k' se=some r'→evOp O fl o.dst o.op s (fun e _=>evOps O fl l (s.put o.dst e) k')=some r':=fun h=>by
   obtain ⟨e,f,h1,h2,h3⟩:=op_at hO hb h
   have hp:=h2.put o.dst
   obtain ⟨se,g1,g2,g3⟩:=evOps_end hO l _ (hp.hb hb) h3
   exact ⟨se,g1,⟨hp.trans g2.1,g2.2⟩,fun k' r' q=>by rw [op_to _ h1];exact g3 k' r' q⟩
  have skip:evOps O fl l (s.undef o.dst) k=some r→∃ se,k se=some r∧(Heir s.h s.n se.h se.n∧se.n0=s.n0)∧∀ (k':AS→Option Res) (r':Res),k' se=some r'→evOps O fl l (s.undef o.dst) k'=some r':=
   fun h=>evOps_end hO l (s.undef o.dst) hb h
  simp only [evOps] at h ⊢
  split at h
  ·exact run h
  ·rename_i t w hgd
   split at h
   ·rename_i hv
    cases w
    ·exact skip h
    ·exact run h
   ·rename_i hv
    cases w
    ·exact run h
    ·exact skip h
   ·exact skip h
   ·cases h
theorem evDraw_end (hO:OHeir O){k:AS→Option Res}:∀ (l:List AOper) (j:Nat) (s:AS) (rs:List Rec),HB s.h s.n→evDraw O fl j l s rs k=some r→
  ∃ se,k se=some r∧(Heir s.h s.n se.h se.n∧se.n0=s.n0)∧∀ (k':AS→Option Res) (r':Res),k' se=some r'→evDraw O fl j l s rs k'=some r'
 | [],_,s,_,_,h=>⟨s,h,⟨Heir.refl _ _,rfl⟩,fun k' r' q=>q⟩
 |o::l,j,s,rs,hb,h=>by
  have run:(evOp O fl o.dst o.op { s with h:=hhide (hidden o.bef rs) s.h } fun e f=>
    let x:Rec:=⟨j,f.hide s.n (hidden o.bef rs),o.dst,e⟩
    bif okAll j o.bef e.all l (hidden o.bef rs)&&apartAll o.bef x rs then evDraw O fl (j+1) l (s.put o.dst e) (x::rs) k else none)=some r→
    ∃ se,k se=some r∧(Heir s.h s.n se.h se.n∧se.n0=s.n0)∧∀ (k':AS→Option Res) (r':Res),k' se=some r'→(evOp O fl o.dst o.op { s with h:=hhide (hidden o.bef rs) s.h } fun e f=>
    let x:Rec:=⟨j,f.hide s.n (hidden o.bef rs),o.dst,e⟩
    bif okAll j o.bef e.all l (hidden o.bef rs)&&apartAll o.bef x rs then evDraw O fl (j+1) l (s.put o.dst e) (x::rs) k' else none)=some r':=fun h=>by
   obtain ⟨e,f,h1,h2,h3⟩:=op_at (s:={ s with h:=hhide (hidden o.bef rs) s.h }) hO (hb_hide hb) h
   simp only at h3
   cases hw:okAll j o.bef e.all l (hidden o.bef rs) with
   |false=>simp [hw] at h3
   |true=>
    have h2:=(okAll_wide h2 hw).put o.dst
    cases hq:apartAll o.bef ⟨j,f.hide s.n (hidden o.bef rs),o.dst,e⟩ rs with
    |false=>simp [hq] at h3
    |true=>
     rw [hw,hq,Bool.and_self,cond_true] at h3
     obtain ⟨se,g1,g2,g3⟩:=evDraw_end hO l _ _ _ (h2.hb hb) h3
     refine ⟨se,g1,⟨h2.trans g2.1,g2.2⟩,fun k' r' q=>?_⟩
     rw [op_to _ h1]
     simp only [hw,hq,Bool.and_self,cond_true]
     exact g3 k' r' q
  have skip:∀ {x:Rec},evDraw O fl (j+1) l (s.undef o.dst) (x::rs) k=some r→
    ∃ se,k se=some r∧(Heir s.h s.n se.h se.n∧se.n0=s.n0)∧∀ (k':AS→Option Res) (r':Res),k' se=some r'→evDraw O fl (j+1) l (s.undef o.dst) (x::rs) k'=some r':=fun h=>evDraw_end hO l (j+1) (s.undef o.dst) _ hb h
  simp only [evDraw] at h ⊢
  split at h
  ·exact run h
  ·rename_i t w hgd
   split at h
   ·cases w
    ·exact skip h
    ·exact run h
   ·cases w
    ·exact run h
    ·exact skip h
   ·exact skip h
   ·cases h
end
theorem posOf_get {id:Nat}:∀ {l:List Nat}{j:Nat},posOf id l=some j→l[j]? = some id
 | [],_,h=>by simp [posOf] at h
 |x::l,j,h=>by
  simp only [posOf] at h
  cases q:Nat.beq x id with
  |true=>rw [q] at h;simp at h;subst h;simp [beq_true.1 q]
  |false=>
   rw [q] at h
   simp only [cond_false] at h
   split at h
   ·rename_i i hi
    simp at h;subst h
    simpa using posOf_get hi
   ·cases h
mutual
theorem ren_rel {θ θ':Th}{base nb:Nat}{l:List Nat}(h:∀ id id',newId base nb l id=some id'→θ' id'=θ id)(hf:Th.fle θ θ'):∀ (a a':AV) (v:Value),AV.ren base nb l a=some a'→VRel θ a v→VRel θ' a' v
 | .b _,_,_,e,r=>by simp only [AV.ren,Option.some.injEq] at e;subst e;exact r
 | .i _ _,_,_,e,r=>by simp only [AV.ren,Option.some.injEq] at e;subst e;exact r
 | .f _ _,_,_,e,r=>by simp only [AV.ren,Option.some.injEq] at e;subst e;exact r
 | .c _ _ _,_,_,e,r=>by simp only [AV.ren,Option.some.injEq] at e;subst e;exact r
 | .s _,_,_,e,r=>by simp only [AV.ren,Option.some.injEq] at e;subst e;exact r
 | .p none,_,_,e,r=>by simp only [AV.ren,Option.some.injEq] at e;subst e;exact r
 | .p (some (id,off)),a',v,e,r=>by
  simp only [AV.ren] at e
  split at e
  ·rename_i id' hid
   simp only [Option.some.injEq] at e;subst e
   simp only [VRel] at r ⊢
   obtain ⟨b,o,C,e1,e2⟩:=r
   exact ⟨b,o,C,by rw [h _ _ hid];exact e1,e2⟩
  ·cases e
 | .lp _ _,_,_,e,r=>by simp [VRel] at r
 | .sl none _ _,_,_,e,r=>by simp only [AV.ren,Option.some.injEq] at e;subst e;exact r
 | .sl (some (id,off)) len cap,a',v,e,r=>by
  simp only [AV.ren] at e
  split at e
  ·rename_i id' hid
   simp only [Option.some.injEq] at e;subst e
   simp only [VRel] at r ⊢
   obtain ⟨b,o,C,cap',e1,e2⟩:=r
   exact ⟨b,o,C,cap',by rw [h _ _ hid];exact e1,e2⟩
  ·cases e
 | .fn g x y,a',v,e,r=>by
  simp only [AV.ren] at e
  split at e
  ·rename_i x' hx
   split at e
   ·rename_i y' hy
    simp only [Option.some.injEq] at e;subst e
    simp only [VRel] at r ⊢
    obtain ⟨p,q,rfl,h1,h2⟩:=r
    exact ⟨p,q,rfl,rens_rel h hf x x' _ hx h1,rens_rel h hf y y' _ hy h2⟩
   ·cases e
  ·cases e
 | .nilfn,_,_,e,r=>by simp only [AV.ren,Option.some.injEq] at e;subst e;exact r
 | .nilif,_,_,e,r=>by simp only [AV.ren,Option.some.injEq] at e;subst e;exact r
 | .agg cs,a',v,e,r=>by
  simp only [AV.ren] at e
  split at e
  ·rename_i cs' hc
   simp only [Option.some.injEq] at e;subst e
   simp only [VRel] at r ⊢
   obtain ⟨x,rfl,h1⟩:=r
   exact ⟨x,rfl,rens_rel h hf cs cs' _ hc h1⟩
  ·cases e
 | .tup cs,a',v,e,r=>by
  simp only [AV.ren] at e
  split at e
  ·rename_i cs' hc
   simp only [Option.some.injEq] at e;subst e
   simp only [VRel] at r ⊢
   obtain ⟨x,rfl,h1⟩:=r
   exact ⟨x,rfl,rens_rel h hf cs cs' _ hc h1⟩
  ·cases e
 | .vs len cap cs,a',v,e,r=>by
  simp only [AV.ren] at e
  split at e
  ·rename_i cs' hc
   simp only [Option.some.injEq] at e;subst e
   simp only [VRel] at r ⊢
   rcases r with ⟨b,o,sp,cap',us,rfl,h0,h1,h2,h3,hr,h4⟩|⟨r1,r2,r3,r4⟩
   ·exact .inl ⟨b,o,sp,cap',us,rfl,h0,h1,h2,h3.mono hf,ren_nors cs cs' hc hr,rens_rel h hf cs cs' _ hc h4⟩
   ·subst r3
    simp only [AV.rens,Option.some.injEq] at hc
    exact .inr ⟨r1,r2,hc.symm,r4⟩
  ·cases e
 | .vp cs,a',v,e,r=>by
  simp only [AV.ren] at e
  split at e
  ·rename_i cs' hc
   simp only [Option.some.injEq] at e;subst e
   simp only [VRel] at r ⊢
   obtain ⟨b,o,us,rfl,h3,hr,h4⟩:=r
   exact ⟨b,o,us,rfl,h3.mono hf,ren_nors cs cs' hc hr,rens_rel h hf cs cs' _ hc h4⟩
  ·cases e
 | .mp cs,a',v,e,r=>by
  simp only [AV.ren] at e
  split at e
  ·rename_i cs' hc
   simp only [Option.some.injEq] at e;subst e
   simp only [VRel] at r ⊢
   obtain ⟨b,us,rfl,h3,h4⟩:=r
   exact ⟨b,us,rfl,hf _ _ _ h3,rens_rel h hf cs cs' _ hc h4⟩
  ·cases e
theorem rens_rel {θ θ':Th}{base nb:Nat}{l:List Nat}(h:∀ id id',newId base nb l id=some id'→θ' id'=θ id)(hf:Th.fle θ θ'):∀ (a a':List AV) (v:List Value),AV.rens base nb l a=some a'→VRels θ a v→VRels θ' a' v
 | [],_,_,e,r=>by simp only [AV.rens,Option.some.injEq] at e;subst e;exact r
 |x::xs,a',v,e,r=>by
  simp only [AV.rens] at e
  split at e
  ·rename_i x' hx
   split at e
   ·rename_i xs' hxs
    simp only [Option.some.injEq] at e;subst e
    simp only [VRels] at r ⊢
    obtain ⟨u,us,rfl,h1,h2⟩:=r
    exact ⟨u,us,rfl,ren_rel h hf x x' u hx h1,rens_rel h hf xs xs' us hxs h2⟩
   ·cases e
  ·cases e
theorem ren_nor {base nb:Nat}{l:List Nat}:∀ (a a':AV),AV.ren base nb l a=some a'→a.nor=true→a'.nor=true
 | .b _,_,e,r=>by simp only [AV.ren,Option.some.injEq] at e;subst e;exact r
 | .i _ _,_,e,r=>by simp only [AV.ren,Option.some.injEq] at e;subst e;exact r
 | .f _ _,_,e,r=>by simp only [AV.ren,Option.some.injEq] at e;subst e;exact r
 | .c _ _ _,_,e,r=>by simp only [AV.ren,Option.some.injEq] at e;subst e;exact r
 | .s _,_,e,r=>by simp only [AV.ren,Option.some.injEq] at e;subst e;exact r
 | .p none,_,e,r=>by simp only [AV.ren,Option.some.injEq] at e;subst e;exact r
 | .p (some (_,_)),_,e,r=>by simp [AV.nor] at r
 | .lp _ _,_,e,r=>by simp [AV.nor] at r
 | .sl none _ _,_,e,r=>by simp only [AV.ren,Option.some.injEq] at e;subst e;exact r
 | .sl (some (_,_)) _ _,_,e,r=>by simp [AV.nor] at r
 | .fn g x y,a',e,r=>by
  simp only [AV.ren] at e
  split at e
  ·rename_i x' hx
   split at e
   ·rename_i y' hy
    simp only [Option.some.injEq] at e;subst e
    simp only [AV.nor,Bool.and_eq_true] at r ⊢
    exact ⟨ren_nors x x' hx r.1,ren_nors y y' hy r.2⟩
   ·cases e
  ·cases e
 | .nilfn,_,e,r=>by simp only [AV.ren,Option.some.injEq] at e;subst e;exact r
 | .nilif,_,e,r=>by simp only [AV.ren,Option.some.injEq] at e;subst e;exact r
 | .agg cs,a',e,r=>by
  simp only [AV.ren] at e
  split at e
  ·rename_i cs' hc
   simp only [Option.some.injEq] at e;subst e
   simp only [AV.nor] at r ⊢
   exact ren_nors cs cs' hc r
  ·cases e
 | .tup cs,a',e,r=>by
  simp only [AV.ren] at e
  split at e
  ·rename_i cs' hc
   simp only [Option.some.injEq] at e;subst e
   simp only [AV.nor] at r ⊢
   exact ren_nors cs cs' hc r
  ·cases e
 | .vs len cap cs,a',e,r=>by
  simp only [AV.ren] at e
  split at e
  ·rename_i cs' hc
   simp only [Option.some.injEq] at e;subst e
   simp only [AV.nor] at r ⊢
   exact ren_nors cs cs' hc r
  ·cases e
 | .vp cs,a',e,r=>by
  simp only [AV.ren] at e
  split at e
  ·rename_i cs' hc
   simp only [Option.some.injEq] at e;subst e
   simp only [AV.nor] at r ⊢
   exact ren_nors cs cs' hc r
  ·cases e
 | .mp cs,a',e,r=>by
  simp only [AV.ren] at e
  split at e
  ·rename_i cs' hc
   simp only [Option.some.injEq] at e;subst e
   simp only [AV.nor] at r ⊢
   exact ren_nors cs cs' hc r
  ·cases e
theorem ren_nors {base nb:Nat}{l:List Nat}:∀ (a a':List AV),AV.rens base nb l a=some a'→AV.nors a=true→AV.nors a'=true
 | [],_,e,r=>by simp only [AV.rens,Option.some.injEq] at e;subst e;exact r
 |x::xs,a',e,r=>by
  simp only [AV.rens] at e
  split at e
  ·rename_i x' hx
   split at e
   ·rename_i xs' hxs
    simp only [Option.some.injEq] at e;subst e
    simp only [AV.nors,Bool.and_eq_true] at r ⊢
    exact ⟨ren_nor x x' hx r.1,ren_nors xs xs' hxs r.2⟩
   ·cases e
  ·cases e
end
theorem rens_len {base nb:Nat}{l:List Nat}:∀ {a a':List AV},AV.rens base nb l a=some a'→a'.length=a.length
 | [],_,e=>by simp only [AV.rens,Option.some.injEq] at e;subst e;rfl
 |x::xs,a',e=>by
  simp only [AV.rens] at e
  split at e
  ·split at e
   ·rename_i xs' hxs
    simp only [Option.some.injEq] at e;subst e
    simp [rens_len hxs]
   ·cases e
  ·cases e
theorem ren_lp {base nb:Nat}{l:List Nat}{a:AV}{s off:Nat}(e:AV.ren base nb l a=some (.lp s off)):a=.lp s off:=by
 cases a with
 |p q=>cases q with
  |none=>simp [AV.ren] at e
  |some q=>obtain ⟨x,y⟩:=q;simp only [AV.ren] at e;split at e<;>simp at e
 |sl q _ _=>cases q with
  |none=>simp [AV.ren] at e
  |some q=>obtain ⟨x,y⟩:=q;simp only [AV.ren] at e;split at e<;>simp at e
 |fn g x y=>
  simp only [AV.ren] at e
  split at e
  ·split at e<;>simp at e
  ·cases e
 |agg _=>simp only [AV.ren] at e;split at e<;>simp at e
 |tup _=>simp only [AV.ren] at e;split at e<;>simp at e
 |vs _ _ _=>simp only [AV.ren] at e;split at e<;>simp at e
 |vp _=>simp only [AV.ren] at e;split at e<;>simp at e
 |mp _=>simp only [AV.ren] at e;split at e<;>simp at e
 |lp _ _=>simpa [AV.ren] using e
 |_=>simp [AV.ren] at e
theorem trel_ren {θ θ':Th}{σ:Nat→Option Nat}{base nb:Nat}{l:List Nat}(h:∀ id id',newId base nb l id=some id'→θ' id'=θ id)(hf:Th.fle θ θ'){a a':AV}{v:Value}(e:AV.ren base nb l a=some a')(r:TRel θ σ a v):TRel θ' σ a' v:=by
 cases hl:a.islp with
 |true=>
  cases a<;>simp [AV.islp] at hl
  simp only [AV.ren,Option.some.injEq] at e;subst e
  exact r
 |false=>exact TRel.of (ren_rel h hf a a' v e (r.val hl))
theorem frens_get {base nb:Nat}{l:List Nat}{t:Nat}{v':AV}:∀ {fr fr':List (Nat×AV)},frens base nb l fr=some fr'→fget fr' t=some v'→∃ v,fget fr t=some v∧AV.ren base nb l v=some v'
 | [],_,e,h=>by simp only [frens,Option.some.injEq] at e;subst e;simp [fget_nil] at h
 |(k,x)::fr,fr',e,h=>by
  simp only [frens] at e
  split at e
  ·rename_i x' hx
   split at e
   ·rename_i r' hr
    simp only [Option.some.injEq] at e;subst e
    rw [fget_cons] at h ⊢
    by_cases q:k=t
    ·rw [if_pos q] at h ⊢;cases h;exact ⟨x,rfl,hx⟩
    ·rw [if_neg q] at h ⊢;exact frens_get hr h
   ·cases e
  ·cases e
theorem lrens_get {base nb:Nat}{l:List Nat}{t:Nat}{v':List AV}:∀ {fr fr':List (Nat×List AV)},lrens base nb l fr=some fr'→lget fr' t=some v'→∃ v,lget fr t=some v∧AV.rens base nb l v=some v'
 | [],_,e,h=>by simp only [lrens,Option.some.injEq] at e;subst e;simp [lget_nil] at h
 |(k,x)::fr,fr',e,h=>by
  simp only [lrens] at e
  split at e
  ·rename_i x' hx
   split at e
   ·rename_i r' hr
    simp only [Option.some.injEq] at e;subst e
    rw [lget_cons] at h ⊢
    by_cases q:k=t
    ·rw [if_pos q] at h ⊢;cases h;exact ⟨x,rfl,hx⟩
    ·rw [if_neg q] at h ⊢;exact lrens_get hr h
   ·cases e
  ·cases e
theorem lrens_some {base nb:Nat}{l:List Nat}{t:Nat}:∀ {fr fr':List (Nat×List AV)},lrens base nb l fr=some fr'→(lget fr t).isSome=true→(lget fr' t).isSome=true
 | [],_,e,h=>by simp [lget_nil] at h
 |(k,x)::fr,fr',e,h=>by
  simp only [lrens] at e
  split at e
  ·rename_i x' hx
   split at e
   ·rename_i r' hr
    simp only [Option.some.injEq] at e;subst e
    rw [lget_cons] at h ⊢
    by_cases q:k=t
    ·rw [if_pos q];rfl
    ·rw [if_neg q] at h ⊢;exact lrens_some hr h
   ·cases e
  ·cases e
theorem hrens_get {base nb:Nat}{l:List Nat}{h:AHeap}{id':Nat}{x':ABlk}:∀ {r:List Nat}{j:Nat}{h':AHeap},hrens base nb l h j r=some h'→hget h' id'=some x'→
  j≤id'∧id'<j+r.length∧∃ id x cs,newId base nb l id=some id'∧base≤id∧hget h id=some x∧AV.rens base nb l x.cells=some cs∧x'=⟨x.own,x.opn,x.ty,x.esz,cs⟩
 | [],j,_,e,g=>by simp only [hrens,Option.some.injEq] at e;subst e;simp [hget_nil] at g
 |id::r,j,h',e,g=>by
  simp only [hrens] at e
  split at e
  ·cases e
  ·rename_i j' hj
   cases q:(Nat.beq j' j&&Nat.ble base id) with
   |false=>rw [q] at e;cases e
   |true=>
    rw [q,cond_true] at e
    simp only [Bool.and_eq_true] at q
    have q1:=beq_true.1 q.1;subst q1
    have q2:=Nat.le_of_ble_eq_true q.2
    split at e
    ·obtain ⟨a1,a2,a3⟩:=hrens_get e g
     exact ⟨by omega,by simp only [List.length_cons];omega,a3⟩
    ·rename_i x hx
     split at e
     ·rename_i cs hcs
      split at e
      ·rename_i h2 hh2
       simp only [Option.some.injEq] at e;subst e
       rw [hget_cons] at g
       by_cases z:j'=id'
       ·rw [if_pos z] at g;cases g
        subst z
        exact ⟨Nat.le_refl _,by simp,id,x,cs,hj,q2,hx,hcs,rfl⟩
       ·rw [if_neg z] at g
        obtain ⟨a1,a2,a3⟩:=hrens_get hh2 g
        exact ⟨by omega,by simp only [List.length_cons];omega,a3⟩
      ·cases e
     ·cases e
  
theorem hlow_get {base:Nat}{L:List Nat}{h:AHeap}{id:Nat}{x:ABlk}:∀ {k:Nat},hget (hlow base L h k) id=some x→id<k∧∃ y,hget h id=some y∧((x=y∧AV.olds base x.cells=true)∨∃ cs,AV.rens base base L y.cells=some cs∧x=⟨y.own,y.opn,y.ty,y.esz,cs⟩)
 |0,g=>by simp [hlow,hget_nil] at g
 |k+1,g=>by
  simp only [hlow] at g
  split at g
  ·rename_i b hb
   cases q:AV.olds base b.cells with
   |true=>
    rw [q,cond_true,hget_cons] at g
    by_cases z:k=id
    ·rw [if_pos z] at g;cases g;subst z;exact ⟨by omega,_,hb,.inl ⟨rfl,q⟩⟩
    ·rw [if_neg z] at g
     obtain ⟨a,b⟩:=hlow_get g
     exact ⟨by omega,b⟩
   |false=>
    rw [q,cond_false] at g
    split at g
    ·rename_i cs hcs
     rw [hget_cons] at g
     by_cases z:k=id
     ·rw [if_pos z] at g;cases g;subst z;exact ⟨by omega,b,hb,.inr ⟨cs,hcs,rfl⟩⟩
     ·rw [if_neg z] at g
      obtain ⟨a,b⟩:=hlow_get g
      exact ⟨by omega,b⟩
    ·obtain ⟨a,b⟩:=hlow_get g
     exact ⟨by omega,b⟩
  ·obtain ⟨a,b⟩:=hlow_get g
   exact ⟨by omega,b⟩
theorem keep_n0 {s s':AS}{ts ls:List Nat}(h:s.keep ts ls=some s'):s'.n0=s.n0:=by
 unfold AS.keep at h
 simp only at h
 cases q:lpOk (keepL s.loc ls) (keepT s.fr ts) with
 |false=>simp [q] at h
 |true=>simp [q] at h;subst h;rfl
theorem newId_inj {base nb id1 id2 j:Nat}{l:List Nat}(h1:newId base nb l id1=some j)(h2:newId base nb l id2=some j)(b1:base≤id1)(b2:base≤id2):id1=id2:=by
 unfold newId at h1 h2
 rw [Nat.ble_eq_true_of_le b1,cond_true] at h1
 rw [Nat.ble_eq_true_of_le b2,cond_true] at h2
 split at h1
 ·rename_i i hi
  split at h2
  ·rename_i i' hi'
   simp only [Option.some.injEq] at h1 h2
   have:i=i':=by omega
   subst this
   have e1:=posOf_get hi
   have e2:=posOf_get hi'
   rw [e1] at e2;cases e2;rfl
  ·cases h2
 ·cases h1
def Th.ren (θ:Th)(base:Nat)(l:List Nat):Th:=⟨fun id=>if id<base then θ id else match l[id-base]? with|some old=>θ old|none=>none,θ.fz⟩
theorem ren_place {θ:Th}{base:Nat}{l:List Nat}:∀ id id',newId base base l id=some id'→(θ.ren base l) id'=θ id:=fun id id' h=>by
 unfold newId at h
 cases q:Nat.ble base id with
 |true=>
  rw [q,cond_true] at h
  split at h
  ·rename_i j hj
   simp only [Option.some.injEq] at h;subst h
   simp only [Th.ren,if_neg (show ¬ base+j<base by omega),Nat.add_sub_cancel_left,posOf_get hj]
  ·cases h
 |false=>
  rw [q,cond_false] at h
  simp only [Option.some.injEq] at h;subst h
  have:id<base:=by
   rcases Nat.lt_or_ge id base with z|z
   ·exact z
   ·rw [Nat.ble_eq_true_of_le z] at q;cases q
  simp only [Th.ren,if_pos this]
theorem keepG_rep {P:Program}{C:Cx}{θ:Th}{σ:Nat→Option Nat}{s s':AS}{a:Act}{w:World}{base:Nat}{ts ls:List Nat}(R:Rep P C θ σ s.fs a w)(h:s.keepG base ts ls=some s')(hng:C.ng≤base)(hfl:C.fl≤base) :
  ∃ θ',Rep P C θ' σ s'.fs a w∧(∀ id,id<base→θ' id=θ id)∧(∀ id,s'.n≤id→θ' id=none)∧θ'.fz=θ.fz∧HB s'.h s'.n∧base≤s'.n∧s'.n0=s.n0:=by
 unfold AS.keepG at h
 split at h
 ·cases h
 ·rename_i s1 hs1
  simp only at h
  generalize hL:(hidss base s1.h 16 (hlids base s1.h base (lidss base s1.loc (fidss base s1.fr []))).reverse (hlids base s1.h base (lidss base s1.loc (fidss base s1.fr [])))).reverse=L at h
  split at h
  ·cases h
  ·rename_i fr hfr
   split at h
   ·cases h
   ·rename_i loc hloc
    split at h
    ·cases h
    ·rename_i hh hhh
     simp only [Option.some.injEq] at h;subst h
     obtain ⟨k1,k2,k3,k4,k5⟩:=keep_same hs1
     have R1:Rep P C θ σ s1.fs a w:=R.weaken (fun t v e=>by simp only [AS.fs,k3] at e;exact keepT_get e) (fun t v e=>by simp only [AS.fs,k4] at e;exact keepL_get e) (by simp only [AS.fs,k1]) (fun t s2 off e=>by
      simp only [AS.fs,k3,k4] at e ⊢
      exact lpOk_get k5 e)
     have hp:=ren_place (θ:=θ) (base:=base) (l:=L)
     have hf:Th.fle θ (θ.ren base L):=fun _ _ _ e=>e
     have blk:∀ id x,hget (hh++hlow base L s1.h base) id=some x→∃ id0 x0,hget s1.h id0=some x0∧x0.own=x.own∧x0.opn=x.opn∧x0.ty=x.ty∧x0.cells.length=x.cells.length∧(θ.ren base L) id=θ id0∧(C.fl≤id→C.fl≤id0)∧id<base+L.length∧
       ((base≤id∧base≤id0∧newId base base L id0=some id)∨(id<base∧id0=id))∧(∀ us,VRels θ x0.cells us→VRels (θ.ren base L) x.cells us):=by
      intro id x hx
      rw [hget_append] at hx
      cases q:hget hh id with
      |some y=>
       rw [q] at hx;simp at hx;subst hx
       obtain ⟨a1,a2,id0,x0,cs,b1,b2,b3,b4,rfl⟩:=hrens_get hhh q
       exact ⟨id0,x0,b3,rfl,rfl,rfl,(rens_len b4).symm,hp _ _ b1,fun _=>by omega,a2,.inl ⟨a1,b2,b1⟩,fun us r=>rens_rel hp hf _ _ us b4 r⟩
      |none=>
       rw [q] at hx;simp at hx
       obtain ⟨a1,y,a2,⟨rfl,a3⟩|⟨cs,a3,rfl⟩⟩:=hlow_get hx
       ·exact ⟨id,x,a2,rfl,rfl,rfl,rfl,by simp only [Th.ren,if_pos a1],fun z=>z,by omega,.inr ⟨a1,rfl⟩,fun us r=>VRels.back (θ:=θ.ren base L) (θ':=θ) (n:=base) (fun id hid=>by simp only [Th.ren,if_pos hid]) hf _ _ a3 r⟩
       ·exact ⟨id,y,a2,rfl,rfl,rfl,(rens_len a3).symm,by simp only [Th.ren,if_pos a1],fun z=>z,by omega,.inr ⟨a1,rfl⟩,fun us r=>rens_rel hp hf _ _ us a3 r⟩
     refine ⟨θ.ren base L,⟨⟨fun g hg=>?_,?_,fun s cs e=>?_,fun s s' cs cs' e e'=>?_,fun id x e=>?_,fun s cs id x b o c e e' t=>?_,fun id id' x x' b o c o' c' e q e' hne t t'=>?_,fun id x b o c e q f t=>?_,fun id x b o c e t=>?_,R1.m.chg,
      R1.m.fzc,fun s cs b o u e=>?_,fun id x b o c o' u e q t=>?_,R1.m.fzn⟩,R1.t.size,R1.t.defers,fun t v e=>?_,fun t s off e=>?_⟩,fun id hid=>by simp only [Th.ren,if_pos hid],fun id hid=>?_,rfl,fun id x e=>?_,?_⟩
     ·simp only [Th.ren,if_pos (Nat.lt_of_lt_of_le hg hng)];exact R1.m.glob g hg
     ·refine ⟨base+L.length,fun id hid=>?_⟩
      simp only [Th.ren,if_neg (show ¬ id<base by omega)]
      rw [List.getElem?_eq_none (by omega)]
     ·obtain ⟨cs0,g1,g2⟩:=lrens_get hloc e
      obtain ⟨b,arr,ty,h1,h2,h3,h4⟩:=R1.m.loc s cs0 g1
      exact ⟨b,arr,ty,h1,h2,h3,rens_rel hp hf _ _ _ g2 h4⟩
     ·obtain ⟨cs0,g1,_⟩:=lrens_get hloc e
      obtain ⟨cs1,g2,_⟩:=lrens_get hloc e'
      exact R1.m.dll s s' cs0 cs1 g1 g2
     ·obtain ⟨id0,x0,c1,c2,c3,c4,c5,c6,c7,_,c8,c9⟩:=blk id x e
      obtain ⟨b,o,c,h1,h2,h3⟩:=R1.m.hp id0 x0 c1
      refine ⟨b,o,c,by rw [c6];exact h1,h2,?_⟩
      unfold BRel at h3 ⊢
      rw [c2] at h3
      split
      ·rename_i hx
       rw [if_pos hx] at h3
       obtain ⟨z0,arr,z1,z2,z3,z4⟩:=h3
       rw [c5] at z2 z3 z4
       rw [c4] at z1 z4
       rw [c3] at z4
       exact ⟨z0,arr,z1,z2,c9 _ z3,z4⟩
      ·rename_i hx
       rw [if_neg hx] at h3
       have key:∃ us:List Value,us.length=x0.cells.length∧VRels θ x0.cells us∧∀ i u,us[i]? = some u→w.cell? ⟨b,o+i,none⟩=some u:=by
        have:∀ m,m≤x0.cells.length→∃ us:List Value,us.length=m∧VRels θ (x0.cells.take m) us∧∀ i u,us[i]? = some u→w.cell? ⟨b,o+i,none⟩=some u:=by
         intro m
         induction m with
         |zero=>intro _;exact ⟨[],rfl,by simp [VRels],by simp⟩
         |succ m ih=>
          intro hm
          obtain ⟨us,u1,u2,u3⟩:=ih (by omega)
          obtain ⟨u,v1,v2⟩:=h3 m x0.cells[m] (List.getElem?_eq_getElem (by omega))
          refine ⟨us++[u],by simp [u1],?_,fun i y hy=>?_⟩
          ·rw [List.take_succ_eq_append_getElem (by omega)]
           exact u2.append (by simp only [VRels];exact ⟨u,[],rfl,v2,rfl⟩)
          ·rw [List.getElem?_append] at hy
           split at hy
           ·exact u3 i y hy
           ·rename_i hi
            have:i=m:=by
             have:=(List.getElem?_eq_some_iff.1 hy).1
             simp at this;omega
            subst this
            simp [u1] at hy;subst hy;exact v1
        obtain ⟨us,u1,u2,u3⟩:=this _ (Nat.le_refl _)
        rw [List.take_length] at u2
        exact ⟨us,u1,u2,u3⟩
       obtain ⟨us,u1,u2,u3⟩:=key
       intro i v hv
       obtain ⟨u,v1,v2⟩:=(c9 us u2).get hv
       exact ⟨u,u3 i u v1,v2⟩
     ·obtain ⟨cs0,g1,_⟩:=lrens_get hloc e
      obtain ⟨id0,x0,c1,c2,c3,c4,c5,c6,c7,_,c8,c9⟩:=blk id x e'
      rw [c6] at t
      exact R1.m.dlh s cs0 id0 x0 b o c g1 c1 t
     ·obtain ⟨id0,x0,c1,c2,_,_,_,c6,_,_,c8,_⟩:=blk id x e
      obtain ⟨id1,x1,d1,d2,_,_,_,d6,_,_,d8,_⟩:=blk id' x' e'
      rw [c6] at t;rw [d6] at t'
      refine R1.m.dhh id0 id1 x0 x1 b o c o' c' c1 (by rw [c2];exact q) d1 (fun z=>?_) t t'
      subst z
      rcases c8 with ⟨p1,p2,p3⟩|⟨p1,p2⟩<;>rcases d8 with ⟨q1,q2,q3⟩|⟨q1,q2⟩
      ·rw [p3] at q3;cases q3;exact hne rfl
      ·omega
      ·omega
      ·exact hne (p2.symm.trans q2)
     ·obtain ⟨id0,x0,c1,c2,_,_,_,c6,c7,_⟩:=blk id x e
      rw [c6] at t
      exact R1.m.ownok id0 x0 b o c c1 (by rw [c2];exact q) (c7 f) t
     ·obtain ⟨id0,x0,c1,c2,_,_,_,c6,_⟩:=blk id x e
      rw [c6] at t
      exact R1.m.bok id0 x0 b o c c1 t
     ·obtain ⟨cs0,g1,_⟩:=lrens_get hloc e
      exact R1.m.fzl s cs0 b o u g1
     ·obtain ⟨id0,x0,c1,c2,_,_,_,c6,_⟩:=blk id x e
      rw [c6] at t
      exact R1.m.fzh id0 x0 b o c o' u c1 (by rw [c2];exact q) t
     ·obtain ⟨v0,g1,g2⟩:=frens_get hfr e
      exact trel_ren hp hf g2 (R1.t.tmp t v0 g1)
     ·obtain ⟨v0,g1,g2⟩:=frens_get hfr e
      have:=ren_lp g2;subst this
      exact lrens_some hloc (R1.t.lpok t s off g1)
     ·simp only at hid
      simp only [Th.ren,if_neg (show ¬ id<base by omega)]
      rw [List.getElem?_eq_none (by omega)]
     ·obtain ⟨_,_,_,_,_,_,_,_,_,c8,_⟩:=blk id x e
      exact c8
     ·exact ⟨Nat.le_add_right _ _,show s1.n0=s.n0 from keep_n0 hs1⟩
theorem keepG_heir {s s':AS}{base:Nat}{ts ls:List Nat}{h0:AHeap}(h:s.keepG base ts ls=some s')(hb0:HB h0 base)(he:Heir h0 base s.h s.n):Heir h0 base s'.h s'.n∧HB s'.h s'.n∧s'.n0=s.n0:=by
 unfold AS.keepG at h
 split at h
 ·cases h
 ·rename_i s1 hs1
  simp only at h
  generalize hL:(hidss base s1.h 16 (hlids base s1.h base (lidss base s1.loc (fidss base s1.fr []))).reverse (hlids base s1.h base (lidss base s1.loc (fidss base s1.fr [])))).reverse=L at h
  split at h
  ·cases h
  ·split at h
   ·cases h
   ·split at h
    ·cases h
    ·rename_i hh hhh
     simp only [Option.some.injEq] at h;subst h
     obtain ⟨k1,_⟩:=keep_same hs1
     refine ⟨⟨Nat.le_add_right _ _,fun id x hx=>?_⟩,fun id x hx=>?_,show s1.n0=s.n0 from keep_n0 hs1⟩
     ·simp only at hx
      rw [hget_append] at hx
      cases q:hget hh id with
      |some y=>
       rw [q] at hx;simp at hx;subst hx
       obtain ⟨a1,a2,id0,x0,cs,b1,b2,b3,b4,rfl⟩:=hrens_get hhh q
       rw [k1] at b3
       rcases he.2 id0 x0 b3 with ⟨z,hz,_⟩|⟨_,_,z⟩
       ·have:=hb0 id0 z hz
        omega
       ·exact .inr ⟨a1,a2,z⟩
      |none=>
       rw [q] at hx;simp at hx
       obtain ⟨a1,y,a2,⟨rfl,a3⟩|⟨cs,a3,rfl⟩⟩:=hlow_get hx <;>
       ·rw [k1] at a2
        rcases he.2 id _ a2 with ⟨z,hz,hq⟩|⟨z,_⟩
        ·exact .inl ⟨z,hz,hq⟩
        ·omega
     ·simp only at hx ⊢
      rw [hget_append] at hx
      cases q:hget hh id with
      |some y=>exact (hrens_get hhh q).2.1
      |none=>
       rw [q] at hx;simp at hx
       obtain ⟨a1,_⟩:=hlow_get hx
       omega
end Go.Proofs.YtchgkmdonhdfeaaGreatDoor.Ab
/- Code whose cuts number the blocks anew, in a small memory: what is evaluated is what the program does. No condition: lemmas only. -/
set_option linter.unusedVariables false
set_option linter.unusedSimpArgs false
namespace Go.Proofs.YtchgkmdonhdfeaaGreatDoor.Ab
open Go
structure Good2 (P:Program) (C:Cx) (θ0:Th) (n0:Nat) (s:AS) (a:Act) (w:World):Prop where
 ex:∃ θ σ,Rep P C θ σ s.fs a w∧Th.ext θ0 θ n0 s.n
 hb:HB s.h s.n
 le:n0≤s.n
 hn:s.n0=n0
section
variable {P:Program}{C:Cx}{O:Orc}{θ0:Th}{n0:Nat}{r:Res}
theorem ext_top {θ:Th}{hi:Nat}(ht:∀ id,n0≤id→θ0 id=none)(hx:Th.ext θ0 θ n0 hi)(hl:n0≤hi):∀ id,hi≤id→θ id=none:=fun id h=>by
 rcases hx.pl id with q|⟨_,_,q⟩
 ·rw [q];exact ht id (by omega)
 ·omega
theorem Good2.good {s:AS}{a:Act}{w:World}(ht:∀ id,n0≤id→θ0 id=none)(g:Good2 P C θ0 n0 s a w)(nf:Nat):Good P C θ0 n0 nf s a w:=by
 obtain ⟨⟨θ,σ,R,hx⟩,hb,hle,_⟩:=g
 exact ⟨⟨θ,σ,R,hx,fun id h1 _=>ext_top ht hx hle id h1⟩,hb,hle⟩
theorem Good.good2 {nf:Nat}{s:AS}{a:Act}{w:World}(g:Good P C θ0 n0 nf s a w)(hn:s.n0=n0):Good2 P C θ0 n0 s a w:=by
 obtain ⟨⟨θ,σ,R,hx,_⟩,hb,hle⟩:=g
 exact ⟨⟨θ,σ,R,hx⟩,hb,hle,hn⟩
theorem evLoop_sound2 {c:Code}{Q:Exit→Act→World→Prop}{body:AS→(AE→AS→Option Res)→Option Res}
  (hb:∀ (s:AS) (a:Act) (w:World) (Q:Exit→Act→World→Prop) (k:AE→AS→Option Res),Good2 P C θ0 n0 s a w→
   (∀ e s' a' w',k e s'=some r→Good2 P C θ0 n0 s' a' w'→Q e.ex' a' w')→body s k=some r→c.wp P Q a w) {k:AE→AS→Option Res}
  (hk:∀ e s' a' w',k e s'=some r→Good2 P C θ0 n0 s' a' w'→Q e.ex' a' w') :
  ∀ (f:Nat) (s:AS) (a:Act) (w:World),Good2 P C θ0 n0 s a w→evLoop body f s k=some r→Code.rounds P c Q f a w
 |0,s,a,w,_,h=>by simp [evLoop] at h
 |f+1,s,a,w,g,h=>by
  simp only [evLoop] at h
  rw [rounds_succ]
  refine hb s a w _ _ g (fun e s' a' w' h' g'=>?_) h
  cases e with
  |nrm=>exact evLoop_sound2 hb hk f s' a' w' g' h'
  |ex id=>exact hk _ s' a' w' h' g'
  |ret=>exact hk _ s' a' w' h' g'
open Classical in
theorem evC_sound2 (hP:P.follows .mixedOrders=true)(hO:OSound P C.ng O)(ht:∀ id,n0≤id→θ0 id=none)(e1:C.ng≤n0)(e2:C.fl≤n0){F:Nat} :
  ∀ (ac:AC) (c:Code) (s:AS) (a:Act) (w:World) (Q:Exit→Act→World→Prop) (k:AE→AS→Option Res),
  okC P C.ng C.N ac c=true→Good2 P C θ0 n0 s a w→(∀ e s' a' w',k e s'=some r→Good2 P C θ0 n0 s' a' w'→Q e.ex' a' w')→
  evC O C.fl F ac s k=some r→c.wp P Q a w
 | .skip,c,s,a,w,Q,k,ok,g,hk,h=>by
  cases c<;>simp only [okC] at ok<;>first|(exact Bool.noConfusion ok)|exact wp_skip (hk .nrm s a w h g)
 | .ret,c,s,a,w,Q,k,ok,g,hk,h=>by
  cases c<;>simp only [okC] at ok<;>first|(exact Bool.noConfusion ok)|exact wp_ret (hk .ret s a w h g)
 | .exit id,c,s,a,w,Q,k,ok,g,hk,h=>by
  cases c<;>simp only [okC] at ok<;>first|(exact Bool.noConfusion ok)|skip
  have e:=beq_true.1 ok;subst e
  exact wp_exit (hk (.ex id) s a w h g)
 | .reg d al,c,s,a,w,Q,k,ok,g,hk,h=>by
  cases c<;>simp only [okC] at ok<;>first|(exact Bool.noConfusion ok)|skip
  rename_i id ops d'
  simp only [Bool.and_eq_true,Bool.or_eq_true] at ok
  obtain ⟨⟨o1,o2⟩,o3⟩:=ok
  have e:d=d':=by simpa using o1
  have hn0:=g.hn
  subst e
  cases d with
  |false=>
   simp only [evC] at h
   refine wp_region_list ?_
   obtain ⟨se,q1,q2,q3⟩:=evOps_end hO.heir al s g.hb h
   have h':=q3 (fun t=>if t=se then some r else none) r (by simp)
   have:=evOps_sound (ops:=ops.toList) (n0:=n0) (θ0:=θ0) (nf:=se.n) (Q:=Q) hO (k:=fun t=>if t=se then some r else none) (fun s' hb h=>by
     split at h
     ·rename_i z;rw [z];exact Nat.le_refl _
     ·cases h) (fun s' a' w' h g=>by
     split at h
     ·rename_i z;subst z;exact hk .nrm s' a' w' q1 (g.good2 (q2.2.trans hn0))
     ·cases h) ops.toList al s a w o2 (g.good ht se.n) h'
   simpa using this
  |true=>
   simp only [evC] at h
   obtain ⟨se,q1,q2,q3⟩:=evDraw_end hO.heir al 0 s [] g.hb h
   have h':=q3 (fun t=>if t=se then some r else none) r (by simp)
   exact evDraw_sound (n0:=n0) (θ0:=θ0) (nf:=se.n) hP hO (k:=fun t=>if t=se then some r else none) (fun s' hb h=>by
     split at h
     ·rename_i z;rw [z];exact Nat.le_refl _
     ·cases h) (fun s' a' w' h g=>by
     split at h
     ·rename_i z;subst z;exact hk .nrm s' a' w' q1 (g.good2 (q2.2.trans hn0))
     ·cases h) o2 (by simpa using o3) (g.good ht se.n) h'
 | .regm m ds kd kvs,c,s,a,w,Q,k,ok,g,hk,h=>by
  cases c<;>simp only [okC] at ok<;>first|(exact Bool.noConfusion ok)|skip
  rename_i id ops d'
  simp only [Bool.and_eq_true,Bool.not_eq_true'] at ok
  obtain ⟨o1,o2⟩:=ok
  subst o1
  simp only [evC] at h
  obtain ⟨⟨θ,σ,R,hx⟩,hb,hle,hn⟩:=g
  refine wp_region_list (regm_sound o2 R fun φ a2 w2 hf R2=>?_)
  exact hk .nrm _ a2 w2 h ⟨⟨⟨θ.pl,φ⟩,σ,R2,hx.pl,Th.fle_trans hx.fz hf⟩,hb,hle,hn⟩
 | .seq x y,c,s,a,w,Q,k,ok,g,hk,h=>by
  cases c<;>simp only [okC] at ok<;>first|(exact Bool.noConfusion ok)|skip
  simp only [Bool.and_eq_true] at ok
  simp only [evC] at h
  refine wp_seq (evC_sound2 hP hO ht e1 e2 x _ s a w _ _ ok.1 g (fun e s' a' w' h' g'=>?_) h)
  cases e with
  |nrm=>exact evC_sound2 hP hO ht e1 e2 y _ s' a' w' Q k ok.2 g' hk h'
  |ex id=>exact hk _ s' a' w' h' g'
  |ret=>exact hk _ s' a' w' h' g'
 | .ite x y z,c,s,a,w,Q,k,ok,g,hk,h=>by
  cases c<;>simp only [okC] at ok<;>first|(exact Bool.noConfusion ok)|skip
  simp only [Bool.and_eq_true] at ok
  simp only [evC] at h
  obtain ⟨⟨θ,σ,R,hx⟩,hb,hle,hn⟩:=g
  split at h
  ·rename_i hv
   have h1:=xn_rel R ok.1.1 hv (fun _ _=>rfl)
   simp only [VRel] at h1
   exact wp_cond_true h1 (evC_sound2 hP hO ht e1 e2 y _ s a w Q k ok.1.2 ⟨⟨θ,σ,R,hx⟩,hb,hle,hn⟩ hk h)
  ·rename_i hv
   have h1:=xn_rel R ok.1.1 hv (fun _ _=>rfl)
   simp only [VRel] at h1
   exact wp_cond_false h1 (evC_sound2 hP hO ht e1 e2 z _ s a w Q k ok.2 ⟨⟨θ,σ,R,hx⟩,hb,hle,hn⟩ hk h)
  ·cases h
 | .blk id x,c,s,a,w,Q,k,ok,g,hk,h=>by
  cases c<;>simp only [okC] at ok<;>first|(exact Bool.noConfusion ok)|skip
  simp only [Bool.and_eq_true] at ok
  have e:=beq_true.1 ok.1;subst e
  simp only [evC] at h
  refine wp_block (evC_sound2 hP hO ht e1 e2 x _ s a w _ _ ok.2 g (fun e s' a' w' h' g'=>?_) h)
  cases e with
  |nrm=>exact hk _ s' a' w' h' g'
  |ex j=>
   simp only [AE.ex',Exit.inBlock]
   simp only at h'
   cases q:Nat.beq j id with
   |true=>rw [q] at h';rw [if_pos (beq_true.1 q)];exact hk .nrm s' a' w' h' g'
   |false=>rw [q] at h';rw [if_neg (beq_false.1 q)];exact hk (.ex j) s' a' w' h' g'
  |ret=>exact hk _ s' a' w' h' g'
 | .loop x,c,s,a,w,Q,k,ok,g,hk,h=>by
  cases c<;>simp only [okC] at ok<;>first|(exact Bool.noConfusion ok)|skip
  simp only [evC] at h
  refine wp_loop_rounds F (evLoop_sound2 (body:=evC O C.fl F x) (fun s a w Q k g hk h=>evC_sound2 hP hO ht e1 e2 x _ s a w Q k ok g hk h) hk F s a w g h)
 | .cutg base ts ls x,c,s,a,w,Q,k,ok,g,hk,h=>by
  have ok':(Nat.beq base C.ng&&okC P C.ng C.N x c)=true:=by cases c<;>exact ok
  simp only [Bool.and_eq_true] at ok'
  simp only [evC] at h
  split at h
  ·rename_i s' hs
   obtain ⟨⟨θ,σ,R,hx⟩,hb,hle,hn⟩:=g
   rw [hn] at hs
   obtain ⟨θ',R',p1,p2,p3,p4,p5,p6⟩:=keepG_rep R hs e1 e2
   refine evC_sound2 hP hO ht e1 e2 x c s' a w Q k ok'.2 ⟨⟨θ',σ,R',⟨fun id=>?_,fun b o u e=>by rw [p3];exact hx.fz b o u e⟩⟩,p4,p5,p6.trans hn⟩ hk h
   rcases Nat.lt_or_ge id n0 with q|q
   ·rw [p1 id q]
    rcases hx.pl id with z|⟨_,z,_⟩
    ·exact .inl z
    ·omega
   ·rcases Nat.lt_or_ge id s'.n with z|z
    ·exact .inr ⟨ht id q,q,z⟩
    ·exact .inl (by rw [p2 id z,ht id q])
  ·cases h
 | .cut ts ls x,c,s,a,w,Q,k,ok,g,hk,h=>by
  have ok':okC P C.ng C.N x c=true:=by cases c<;>exact ok
  simp only [evC] at h
  split at h
  ·rename_i s' hs
   obtain ⟨q1,q2,q3,q4,q5⟩:=keep_same hs
   obtain ⟨⟨θ,σ,R,hx⟩,hb,hle,hn⟩:=g
   refine evC_sound2 hP hO ht e1 e2 x c s' a w Q k ok' ⟨⟨θ,σ,R.weaken (fun t v e=>?_) (fun t v e=>?_) ?_ (fun t s2 off e=>?_),by rw [q2];exact hx⟩,by rw [q1,q2];exact hb,by rw [q2];exact hle,(keep_n0 hs).trans hn⟩ hk h
   ·simp only [AS.fs,q3] at e;exact keepT_get e
   ·simp only [AS.fs,q4] at e;exact keepL_get e
   ·simp only [AS.fs,q1]
   ·simp only [AS.fs,q3,q4] at e ⊢
    exact lpOk_get q5 e
  ·cases h
end
theorem evFn_sound3 {P:Program}{ng:Nat}{O:Orc}{F g fl n n':Nat}{fn:Func}{f:AFn}{args:List AV}{h h':AHeap}{v:AV}(hP:P.follows .mixedOrders=true)(hO:OSound P ng O)(hg:P.funcs[g]? = some fn)(ok:okFn P ng fn f=true)(hn:ng≤n)(hfl:fl≤n)
  (he:evFn O fl F f args h n=some (v,h',n')) (hb:HB h n) {θ:Th} {w:World} {cargs:Array Value} (hm:Mem P ng θ h w) (ha:VRels θ args cargs.toList) (ht:∀ id,n≤id→θ id=none) :
  Calls P g cargs w (fun e w'=>HB h' n'∧Did P ng h n fl θ w v (some (h',n')) e w'):=by
 simp only [okFn,Bool.and_eq_true] at ok
 obtain ⟨⟨⟨⟨o1,o2⟩,o3⟩,o4⟩,o5⟩:=ok
 split at o5
 ·rename_i c hc
  have o2:=beq_true.1 o2
  have o3:=Nat.le_of_ble_eq_true o3
  unfold evFn at he
  cases hq:Nat.beq args.length f.nargs with
  |false=>simp [hq] at he
  |true=>
   rw [hq,cond_true] at he
   have hq:=beq_true.1 hq
   have hl:=ha.length
   simp at hl
   refine calls_of_wp hg hc ?_
   have R0:Rep P (cx w h fl ng θ f.ntmps) θ (fun _=>none) (AS.fs ⟨argsFr 0 args,[],h,n,n⟩) { tmps:=cargs++Array.replicate (fn.ntmps-cargs.size) undef,defers:=[] } w:=by
    refine ⟨?_,⟨?_,rfl,fun t u hu=>?_,fun t s off hu=>?_⟩⟩
    ·have:=hm.rep fl f.ntmps (fun _=>none)
     exact ⟨this.glob,this.fin,fun s cs e=>by simp [AS.fs,lget_nil,lget_cns] at e,fun s s' cs cs' e=>by simp [AS.fs,lget_nil,lget_cns] at e,this.hp,fun s cs id x b o c e=>by simp [AS.fs,lget_nil,lget_cns] at e,this.dhh,this.ownok,this.bok,this.chg,this.fzc,fun s cs b o u e=>by simp [AS.fs,lget_nil,lget_cns] at e,this.fzh,this.fzn⟩
    ·simp [cx,o2];omega
    ·obtain ⟨h1,h2⟩:=argsFr_get 0 args t u hu
     simp at h2
     obtain ⟨y,hy,hr⟩:=ha.get h2
     have hlt:t<cargs.size:=by
      have:=(List.getElem?_eq_some_iff.1 hy).1;simpa using this
     refine TRel.of ?_
     have:(cargs++Array.replicate (fn.ntmps-cargs.size) undef).getD t undef=y:=by
      simp only [Array.getD_eq_getD_getElem?,Array.getElem?_append_left hlt]
      simp at hy
      rw [hy];rfl
     rw [this];exact hr
    ·obtain ⟨h1,h2⟩:=argsFr_get 0 args t _ hu
     simp at h2
     obtain ⟨y,hy,hr⟩:=ha.get h2
     simp [VRel] at hr
   refine evC_sound2 (C:=cx w h fl ng θ f.ntmps) (θ0:=θ) (n0:=n) (r:=(v,h',n')) hP hO ht hn hfl f.body c ⟨argsFr 0 args,[],h,n,n⟩ _ w _ _ o5 ⟨⟨θ,fun _=>none,R0,Th.ext_refl _ _ _⟩,hb,Nat.le_refl _,rfl⟩ (fun e s' a' w' h1 g'=>?_) he
   have h2:outOf f.res s'=some (v,h',n'):=by
    cases e<;>first|exact h1|cases h1
   obtain ⟨⟨θ',σ',R',hx⟩,hb',hle,_⟩:=g'
   obtain ⟨u,u1,u2,u3,u4⟩:=results_run R' o4 h2
   have post:a'.defers=[]∧∃ v1,(results fn a'.tmps).run P w'=.ok v1 w'∧HB h' n'∧Did P ng h n fl θ w v (some (h',n')) (.returned v1) w':=by
    refine ⟨R'.t.defers,u,u1,by rw [← u3,← u4];exact hb',u,rfl,θ',by rw [← u4];exact hx,u2,?_⟩
    rw [← u3]
    exact ⟨R'.m.glob,R'.m.fin,fun s cs e=>by simp [F0] at e,fun s s' cs cs' e=>by simp [F0] at e,R'.m.hp,fun s cs id x b o c e=>by simp [F0] at e,R'.m.dhh,R'.m.ownok,R'.m.bok,R'.m.chg,R'.m.fzc,fun s cs b o u e=>by simp [F0] at e,R'.m.fzh,R'.m.fzn⟩
   cases e with
   |nrm=>exact post
   |ret=>exact post
   |ex id=>cases h1
 ·cases o5
theorem evFn_sound2 {P:Program}{ng:Nat}{O:Orc}{F g n':Nat}{fn:Func}{f:AFn}{args:List AV}{h h':AHeap}{v:AV}(hP:P.follows .mixedOrders=true)(hO:OSound P ng O)(hg:P.funcs[g]? = some fn)(ok:okFn P ng fn f=true)
  (he:evFn O ng F f args h ng=some (v,h',n')) (hb:HB h ng) {θ:Th} {w:World} {cargs:Array Value} (hm:Mem P ng θ h w) (ha:VRels θ args cargs.toList) (ht:∀ id,ng≤id→θ id=none) :
  Calls P g cargs w (fun e w'=>HB h' n'∧Did P ng h ng ng θ w v (some (h',n')) e w'):=evFn_sound3 hP hO hg ok (Nat.le_refl _) (Nat.le_refl _) he hb hm ha ht
def Hr (h0:AHeap)(n0:Nat)(s:AS):Prop:=s.n0=n0∧HB s.h s.n∧Heir h0 n0 s.h s.n
theorem evLoop_heir2 {r:Res}{h0:AHeap}{n0:Nat}{body:AS→(AE→AS→Option Res)→Option Res}
  (hb':∀ (s:AS) (k:AE→AS→Option Res),Hr h0 n0 s→body s k=some r→∃ e s',k e s'=some r∧Hr h0 n0 s') {k:AE→AS→Option Res} :
  ∀ (f:Nat) (s:AS),Hr h0 n0 s→evLoop body f s k=some r→∃ e s',k e s'=some r∧Hr h0 n0 s'
 |0,s,_,h=>by simp [evLoop] at h
 |f+1,s,hb,h=>by
  simp only [evLoop] at h
  obtain ⟨e,s',h1,h2⟩:=hb' s _ hb h
  cases e with
  |nrm=>exact evLoop_heir2 hb' f s' h2 h1
  |ex id=>exact ⟨_,s',h1,h2⟩
  |ret=>exact ⟨_,s',h1,h2⟩
theorem evC_heir2 {O:Orc}{fl:Nat}{r:Res}(hO:OHeir O){F:Nat}{h0:AHeap}{n0:Nat}(hb0:HB h0 n0):∀ (c:AC) (s:AS) (k:AE→AS→Option Res),Hr h0 n0 s→evC O fl F c s k=some r→∃ e s',k e s'=some r∧Hr h0 n0 s'
 | .skip,s,k,j,h=>⟨.nrm,s,h,j⟩
 | .ret,s,k,j,h=>⟨.ret,s,h,j⟩
 | .reg false ops,s,k,j,h=>by
  obtain ⟨se,q1,q2,_⟩:=evOps_end hO ops s j.2.1 h
  exact ⟨_,se,q1,q2.2.trans j.1,q2.1.hb j.2.1,j.2.2.trans q2.1⟩
 | .reg true ops,s,k,j,h=>by
  obtain ⟨se,q1,q2,_⟩:=evDraw_end hO ops 0 s [] j.2.1 h
  exact ⟨_,se,q1,q2.2.trans j.1,q2.1.hb j.2.1,j.2.2.trans q2.1⟩
 | .seq a b,s,k,j,h=>by
  simp only [evC] at h
  obtain ⟨e,s',h1,h2⟩:=evC_heir2 hO hb0 a s _ j h
  cases e with
  |nrm=>exact evC_heir2 hO hb0 b s' _ h2 h1
  |ex id=>exact ⟨_,s',h1,h2⟩
  |ret=>exact ⟨_,s',h1,h2⟩
 | .ite c a b,s,k,j,h=>by
  simp only [evC] at h
  split at h
  ·exact evC_heir2 hO hb0 a s k j h
  ·exact evC_heir2 hO hb0 b s k j h
  ·cases h
 | .blk id a,s,k,j,h=>by
  simp only [evC] at h
  obtain ⟨e,s',h1,h2⟩:=evC_heir2 hO hb0 a s _ j h
  cases e with
  |nrm=>exact ⟨_,s',h1,h2⟩
  |ex i=>
   simp only at h1
   cases q:Nat.beq i id with
   |true=>rw [q] at h1;exact ⟨_,s',h1,h2⟩
   |false=>rw [q] at h1;exact ⟨_,s',h1,h2⟩
  |ret=>exact ⟨_,s',h1,h2⟩
 | .loop a,s,k,j,h=>by
  simp only [evC] at h
  exact evLoop_heir2 (fun s k j h=>evC_heir2 hO hb0 a s k j h) F s j h
 | .exit id,s,k,j,h=>⟨.ex id,s,h,j⟩
 | .regm m ds kd kvs,s,k,j,h=>⟨.nrm,_,h,j⟩
 | .cutg base ts ls a,s,k,j,h=>by
  simp only [evC] at h
  split at h
  ·rename_i s' hs
   rw [j.1] at hs
   obtain ⟨q1,q2,q3⟩:=keepG_heir hs hb0 j.2.2
   exact evC_heir2 hO hb0 a s' k ⟨q3.trans j.1,q2,q1⟩ h
  ·cases h
 | .cut ts ls a,s,k,j,h=>by
  simp only [evC] at h
  split at h
  ·rename_i s' hs
   obtain ⟨q1,q2,_⟩:=keep_same hs
   exact evC_heir2 hO hb0 a s' k ⟨(keep_n0 hs).trans j.1,by rw [q1,q2];exact j.2.1,by rw [q1,q2];exact j.2.2⟩ h
  ·cases h
theorem evFn_heir2 {O:Orc}{fl:Nat}(hO:OHeir O){F:Nat}{f:AFn}{args:List AV}{h h':AHeap}{n n':Nat}{v:AV}(hb:HB h n)(he:evFn O fl F f args h n=some (v,h',n')):Heir h n h' n':=by
 unfold evFn at he
 cases q:Nat.beq args.length f.nargs with
 |false=>simp [q] at he
 |true=>
  rw [q,cond_true] at he
  obtain ⟨e,s',h1,h2⟩:=evC_heir2 hO hb f.body ⟨argsFr 0 args,[],h,n,n⟩ _ ⟨rfl,hb,Heir.refl _ _⟩ he
  have:outOf f.res s'=some (v,h',n'):=by
   cases e<;>first|exact h1|cases h1
  unfold outOf at this
  split at this<;>first|(simp only [Option.some.injEq,Prod.mk.injEq] at this;obtain ⟨_,rfl,rfl⟩:=this;exact h2.2.2)|cases this
def hold (n:Nat):AHeap→Bool
 | []=>true
 |(_,b)::r=>AV.olds n b.cells&&hold n r
theorem hold_get {n id:Nat}{x:ABlk}:∀ {h:AHeap},hold n h=true→hget h id=some x→AV.olds n x.cells=true
 | [],_,e=>by simp [hget_nil] at e
 |(k,b)::r,q,e=>by
  simp only [hold,Bool.and_eq_true] at q
  rw [hget_cons] at e
  by_cases z:k=id
  ·rw [if_pos z] at e;cases e;exact q.1
  ·rw [if_neg z] at e;exact hold_get q.2 e
def Th.low (θ:Th)(n:Nat):Th:=⟨fun id=>if id<n then θ id else none,θ.fz⟩
theorem low_mem {P:Program}{ng n:Nat}{θ:Th}{h:AHeap}{w:World}(m:Mem P ng θ h w)(hb:HB h n)(hn:ng≤n)(hh:hold n h=true):Mem P ng (θ.low n) h w:=by
 have hlt:∀ id,id<n→(θ.low n) id=θ id:=fun id q=>by simp only [Th.low,if_pos q]
 have hf:Th.fle θ (θ.low n):=fun _ _ _ e=>e
 refine ⟨fun g hg=>by rw [hlt g (by omega)];exact m.glob g hg,⟨n,fun id hid=>by simp only [Th.low,if_neg (show ¬ id<n by omega)]⟩,fun id x e=>?_,fun id id' x x' b o c o' c' e q e' hne t t'=>?_,m.fzc,fun id x b o c o' u e q t=>?_⟩
 ·obtain ⟨b,o,c,h1,h2,h3⟩:=m.hp id x e
  refine ⟨b,o,c,by rw [hlt id (hb id x e)];exact h1,h2,?_⟩
  have ho:=hold_get hh e
  unfold BRel at h3 ⊢
  split
  ·rename_i hx
   rw [if_pos hx] at h3
   obtain ⟨z0,arr,z1,z2,z3,z4⟩:=h3
   exact ⟨z0,arr,z1,z2,VRels.back (θ:=θ.low n) (θ':=θ) (fun id q=>(hlt id q).symm) hf _ _ ho z3,z4⟩
  ·rename_i hx
   rw [if_neg hx] at h3
   intro i v hv
   obtain ⟨u,v1,v2⟩:=h3 i v hv
   have hov:∀ {l:List AV} {i:Nat} {v:AV},AV.olds n l=true→l[i]? = some v→v.old n=true:=by
    intro l
    induction l with
    |nil=>intro i v _ hv;simp at hv
    |cons x l ih=>
     intro i v hn hv
     simp only [AV.olds,Bool.and_eq_true] at hn
     cases i with
     |zero=>simp at hv;subst hv;exact hn.1
     |succ i=>simp at hv;exact ih hn.2 hv
   exact ⟨u,v1,VRel.back (θ:=θ.low n) (θ':=θ) (fun id q=>(hlt id q).symm) hf _ _ (hov ho hv) v2⟩
 ·rw [hlt id (hb id x e)] at t
  rw [hlt id' (hb id' x' e')] at t'
  exact m.dhh id id' x x' b o c o' c' e q e' hne t t'
 ·rw [hlt id (hb id x e)] at t
  exact m.fzh id x b o c o' u e q t
theorem evFn_sound4 {P:Program}{ng:Nat}{O:Orc}{F g fl n n':Nat}{fn:Func}{f:AFn}{args:List AV}{h h':AHeap}{v:AV}(hP:P.follows .mixedOrders=true)(hO:OSound P ng O)(hg:P.funcs[g]? = some fn)(ok:okFn P ng fn f=true)(hn:ng≤n)(hfl:fl≤n)
  (ho:AV.olds n args=true) (hh:hold n h=true) (he:evFn O fl F f args h n=some (v,h',n')) (hb:HB h n) {θ:Th} {w:World} {cargs:Array Value} (hm:Mem P ng θ h w) (ha:VRels θ args cargs.toList) (hf:Free θ n n') :
  Calls P g cargs w (Did P ng h n fl θ w v (some (h',n'))):=by
 have hlt:∀ id,id<n→(θ.low n) id=θ id:=fun id q=>by simp only [Th.low,if_pos q]
 have ha':VRels (θ.low n) args cargs.toList:=VRels.back (θ:=θ.low n) (θ':=θ) (fun id q=>(hlt id q).symm) (fun _ _ _ e=>e) _ _ ho ha
 have ht:∀ id,n≤id→(θ.low n) id=none:=fun id q=>by simp only [Th.low,if_neg (show ¬ id<n by omega)]
 refine (evFn_sound3 hP hO hg ok hn hfl he hb (low_mem hm hb hn hh) ha' ht).mono fun e w' ⟨hb',u,hu,θ',hx,hv,R⟩=>?_
 have hle:n≤n':=(evFn_heir2 hO.heir hb he).1
 have htop:∀ id,n'≤id→θ' id=none:=fun id q=>by
  rcases hx.pl id with z|⟨_,_,z⟩
  ·rw [z];exact ht id (by omega)
  ·omega
 have hl:Th.le θ' ⟨fun id=>if id<n' then θ' id else θ id,θ'.fz⟩:=⟨fun id t e=>(by
  rcases Nat.lt_or_ge id n' with q|q
  ·simp only [if_pos q];exact e
  ·rw [htop id q] at e;cases e),fun _ _ _ e=>e⟩
 have he':∀ id,id<n'→(⟨fun id=>if id<n' then θ' id else θ id,θ'.fz⟩:Th) id=θ' id:=fun id q=>if_pos q
 have hM:∀ b,M0 h fl (θ.low n) b↔M0 h fl θ b:=fun b=>⟨fun ⟨id,x,o,c,e,q,f,t⟩=>⟨id,x,o,c,e,q,f,by rw [hlt id (hb id x e)] at t;exact t⟩,fun ⟨id,x,o,c,e,q,f,t⟩=>⟨id,x,o,c,e,q,f,by rw [hlt id (hb id x e)];exact t⟩⟩
 have hB:∀ b,B0 h (θ.low n) b↔B0 h θ b:=fun b=>⟨fun ⟨id,x,o,c,e,t⟩=>⟨id,x,o,c,e,by rw [hlt id (hb id x e)] at t;exact t⟩,fun ⟨id,x,o,c,e,t⟩=>⟨id,x,o,c,e,by rw [hlt id (hb id x e)];exact t⟩⟩
 have hM':M0 h fl (θ.low n)=M0 h fl θ:=funext fun b=>propext (hM b)
 have hB':B0 h (θ.low n)=B0 h θ:=funext fun b=>propext (hB b)
 have hcx:cx w h fl ng (θ.low n) 0=cx w h fl ng θ 0:=by
  show (⟨w,M0 h fl (θ.low n),B0 h (θ.low n),fl,ng,0,θ.fz⟩:Cx)=⟨w,M0 h fl θ,B0 h θ,fl,ng,0,θ.fz⟩
  rw [hM',hB']
 rw [hcx] at R
 refine ⟨u,hu,⟨fun id=>if id<n' then θ' id else θ id,θ'.fz⟩,⟨fun id=>?_,hx.fz⟩,VRel.mono hl _ _ hv,?_⟩
 ·rcases Nat.lt_or_ge id n' with q|q
  ·rcases Nat.lt_or_ge id n with p|p
   ·rcases hx.pl id with z|⟨_,z,_⟩
    ·exact .inl (by rw [he' id q,z,hlt id p])
    ·omega
   ·exact .inr ⟨hf id p q,p,q⟩
  ·exact .inl (if_neg (by omega))
 ·refine ⟨fun g hg=>by rw [he' g (by simp only [cx] at hg;omega)];exact R.glob g hg,?_,fun s cs e=>by simp [F0] at e,fun s s' cs cs' e=>by simp [F0] at e,fun id x e=>?_,fun s cs id x b o c e=>by simp [F0] at e,fun id id' x x' b o c o' c' e q e' hne t t'=>?_,fun id x b o c e q f t=>?_,fun id x b o c e t=>?_,R.chg,R.fzc,fun s cs b o u e=>by simp [F0] at e,fun id x b o c o' u e q t=>?_,R.fzn⟩
  ·obtain ⟨B,hB⟩:=hm.fin
   exact ⟨B+n',fun id q=>by
    show (if id<n' then θ' id else θ id)=none
    rw [if_neg (by omega)];exact hB id (by omega)⟩
  ·obtain ⟨b,o,c,h1,h2,h3⟩:=R.hp id x e
   exact ⟨b,o,c,hl.pl id _ h1,h2,BRel.keep P h3 hl (Chg.refl (fun _=>False) w') (fun z=>z)⟩
  ·rw [he' id (hb' id x e)] at t
   rw [he' id' (hb' id' x' e')] at t'
   exact R.dhh id id' x x' b o c o' c' e q e' hne t t'
  ·rw [he' id (hb' id x e)] at t
   exact R.ownok id x b o c e q f t
  ·rw [he' id (hb' id x e)] at t
   exact R.bok id x b o c e t
  ·rw [he' id (hb' id x e)] at t
   exact R.fzh id x b o c o' u e q t
end Go.Proofs.YtchgkmdonhdfeaaGreatDoor.Ab
/- Calls by contents: blocks that are handed in or out give way to what they hold; what such a call's word is worth. No condition: definitions and lemmas only. -/
set_option linter.unusedVariables false
set_option linter.unusedSimpArgs false
namespace Go.Proofs.YtchgkmdonhdfeaaGreatDoor.Ab
open Go
noncomputable section
def frzs (g:AV→Option AV):List AV→Option (List AV)
 | []=>some []
 |x::xs=>match g x with
  |some y=>match frzs g xs with
   |some ys=>some (y::ys)
   |none=>none
  |none=>none
def frz (okv:Bool)(base:Nat)(h:AHeap):Nat→AV→Option AV
 |0,_=>none
 |_+1,.sl none _ _=>some (.vs 0 .unk [])
 |f+1,.sl (some (id,off)) len _=>match hget h id with
  |some x=>bif x.own&&Nat.ble base id then match frzs (frz okv base h f) ((x.cells.drop off).take (len*x.esz)) with
    |some cs=>some (.vs len .unk cs)
    |none=>none
   else none
  |none=>bif Nat.beq len 0 then some (.vs 0 .unk []) else none
 |f+1,.p (some (id,off))=>match hget h id with
  |some x=>bif x.own&&Nat.ble base id then match frzs (frz okv base h f) (x.cells.drop off) with
    |some cs=>some (.vp cs)
    |none=>none
   else none
  |none=>none
 |_+1,.vs len _ cs=>bif okv then some (.vs len .unk cs) else bif Nat.beq len 0 then some (.vs 0 .unk []) else none
 |_+1,.vp cs=>bif okv then some (.vp cs) else none
 |f+1,.mp cs=>bif okv then (match frzs (frz okv base h f) cs with
  |some cs'=>some (.mp cs')
  |none=>none) else none
 |f+1,.agg cs=>match frzs (frz okv base h f) cs with
  |some cs'=>some (.agg cs')
  |none=>none
 |f+1,.tup cs=>match frzs (frz okv base h f) cs with
  |some cs'=>some (.tup cs')
  |none=>none
 |f+1,.fn g x y=>match frzs (frz okv base h f) x with
  |some x'=>match frzs (frz okv base h f) y with
   |some y'=>some (.fn g x' y')
   |none=>none
  |none=>none
 |_+1,.lp _ _=>none
 |_+1,v=>some v
def hglb (h:AHeap):Nat→AHeap
 |0=>[]
 |k+1=>match hget h k with
  |some b=>bif AV.nors b.cells then (k,⟨false,false,b.ty,b.esz,b.cells⟩)::hglb h k else hglb h k
  |none=>hglb h k
def hown (h:AHeap)(ng nb:Nat)(l:List Nat):Nat→List Nat→Option AHeap
 |_,[]=>some []
 |j,id::r=>match newId ng nb l id with
  |none=>none
  |some j'=>bif Nat.beq j' j&&Nat.ble ng id then match hget h id with
    |none=>hown h ng nb l (j+1) r
    |some x=>bif x.own then match frzs (frz true ng (hhide l h) 8) x.cells with
      |some cs=>match hown h ng nb l (j+1) r with
       |some h'=>some ((j,⟨true,x.opn,x.ty,x.esz,cs⟩)::h')
       |none=>none
      |none=>none
     else none
   else none
mutual
def AV.nn:AV→AV
 | .sl none _ _=>.vs 0 .unk []
 | .agg cs=>.agg (AV.nns cs)
 | .tup cs=>.tup (AV.nns cs)
 |v=>v
def AV.nns:List AV→List AV
 | []=>[]
 |x::xs=>AV.nn x::AV.nns xs
end
def ownIds (ng:Nat)(v:AV):List Nat:=(AV.ids ng v []).reverse
def evP (ng:Nat)(O:Orc)(fs:Nat→Option AFn)(F:Nat):Orc:=fun g args h n fl=>match fs g with
 |none=>O g args h n fl
 |some f=>
  bif Nat.beq fl (n+1)||Nat.beq fl n then
   match frzs (frz true 0 (bif AV.nors args then [] else h) 8) args with
   |none=>none
   |some args'=>match evFn O ng F f args' (hglb h ng) ng with
    |none=>none
    |some (v,h',_)=>
     bif Nat.beq fl (n+1) then
      match frz (AV.nors args) ng h' 8 v with
      |some v'=>some (v',none)
      |none=>none
     else bif AV.nors args then
      match AV.ren ng n (ownIds ng v) v with
      |some v'=>match hown h' ng n (ownIds ng v) n (ownIds ng v) with
       |some news=>some (AV.nn v',some (news,n+(ownIds ng v).length))
       |none=>none
      |none=>none
     else none
  else bif f.body.nog then match evFn O (flOf fl n) F f args h n with
   |some (v,h',n')=>some (v,some (h',n'))
   |none=>none
  else bif AV.olds n args&&hold n h&&Nat.ble ng n&&Nat.ble (flOf fl n) n then match evFn O (flOf fl n) F f args h n with
   |some (v,h',n')=>some (v,some (h',n'))
   |none=>none
  else none
def evV (ng:Nat)(O:Orc)(fs:Nat→Option AFn)(F:Nat):Nat→Orc
 |0=>O
 |d+1=>evP ng (evV ng O fs F d) fs F
end
def Fzd (base:Nat)(h:AHeap)(θ θ':Th)(w:World):Prop:=∀ id x b o c,hget h id=some x→x.own=true→base≤id→θ id=some (b,o,c)→∀ i u,w.cell? ⟨b,i,none⟩=some u→(∀ d x,u≠.iface d x)→θ'.fz b i=some u
theorem frzs_rel {θ θ':Th}{g:AV→Option AV}(h:∀ a a' v,g a=some a'→VRel θ a v→VRel θ' a' v∧a'.nor=true):∀ {l l':List AV}{vs:List Value},frzs g l=some l'→VRels θ l vs→VRels θ' l' vs∧AV.nors l'=true
 | [],_,vs,e,r=>by simp only [frzs,Option.some.injEq] at e;subst e;exact ⟨r,rfl⟩
 |x::xs,l',vs,e,r=>by
  simp only [frzs] at e
  split at e
  ·rename_i y hy
   split at e
   ·rename_i ys hys
    simp only [Option.some.injEq] at e;subst e
    simp only [VRels] at r ⊢
    obtain ⟨u,us,rfl,r1,r2⟩:=r
    obtain ⟨a1,a2⟩:=h _ _ _ hy r1
    obtain ⟨b1,b2⟩:=frzs_rel h hys r2
    exact ⟨⟨u,us,rfl,a1,b1⟩,by simp only [AV.nors,a2,b2,Bool.and_self]⟩
   ·cases e
  ·cases e
theorem frzs_len {g:AV→Option AV}:∀ {l l':List AV},frzs g l=some l'→l'.length=l.length
 | [],_,e=>by simp only [frzs,Option.some.injEq] at e;subst e;rfl
 |x::xs,l',e=>by
  simp only [frzs] at e
  split at e
  ·split at e
   ·rename_i ys hys
    simp only [Option.some.injEq] at e;subst e
    simp [frzs_len hys]
   ·cases e
  ·cases e
theorem frz_rel {P:Program}{okv:Bool}{base:Nat}{h:AHeap}{θ θ':Th}{w:World}(hp:∀ id x,hget h id=some x→∃ b o c,θ id=some (b,o,c)∧b<w.heap.size∧BRel P θ x b o c w)(hz:Fzd base h θ θ' w)(hv:okv=true→Th.fle θ θ') :
  ∀ (f:Nat) (a a':AV) (v:Value),frz okv base h f a=some a'→VRel θ a v→VRel θ' a' v∧a'.nor=true:=by
 intro f
 induction f with
 |zero=>intro a a' v e;simp [frz] at e
 |succ f ih=>
  intro a a' v e r
  have blk:∀ {id x b o c},hget h id=some x→(x.own&&Nat.ble base id)=true→θ id=some (b,o,c)→o=0∧∃ arr:Array Value,x.cells.length≤arr.size∧VRels θ x.cells (arr.toList.take x.cells.length)∧∀ i u,arr.toList[i]? = some u→(∀ d x,u≠.iface d x)→θ'.fz b i=some u:=by
   intro id x b o c h1 h2 h3
   simp only [Bool.and_eq_true] at h2
   obtain ⟨b',o',c',g1,g2,g3⟩:=hp id x h1
   rw [h3] at g1;cases g1
   unfold BRel at g3;rw [if_pos h2.1] at g3
   obtain ⟨rfl,arr,z1,z2,z3,z4⟩:=g3
   refine ⟨rfl,arr,z2,z3,fun i u hu hn=>hz id x b 0 c h1 h2.1 (Nat.le_of_ble_eq_true h2.2) h3 i u ?_ hn⟩
   simp only [World.cell?,z1]
   simpa using hu
  have nilvs:∀ {u:Value},(∃ q c,u=.slice q 0 c∧(q=none→c=0)∧(∀ p,q=some p→0<c→p.spot=none))→VRel θ' (.vs 0 .unk []) u:=by
   intro u ⟨q,c,hu,h0,h1⟩
   simp only [VRel]
   cases q with
   |none=>exact .inr ⟨by rw [hu,h0 rfl],trivial,trivial,trivial⟩
   |some p=>
    exact .inl ⟨p.block,p.off,p.spot,c,[],hu,h1 p rfl,Nat.zero_le _,trivial,fun i u e=>by simp at e,rfl,by simp [VRels]⟩
  cases a with
  |b x=>simp only [frz,Option.some.injEq] at e;subst e;exact ⟨r,rfl⟩
  |i k x=>simp only [frz,Option.some.injEq] at e;subst e;exact ⟨r,rfl⟩
  |f k x=>simp only [frz,Option.some.injEq] at e;subst e;exact ⟨r,rfl⟩
  |c k x y=>simp only [frz,Option.some.injEq] at e;subst e;exact ⟨r,rfl⟩
  |s x=>simp only [frz,Option.some.injEq] at e;subst e;exact ⟨r,rfl⟩
  |nilfn=>simp only [frz,Option.some.injEq] at e;subst e;exact ⟨r,rfl⟩
  |nilif=>simp only [frz,Option.some.injEq] at e;subst e;exact ⟨r,rfl⟩
  |lp _ _=>simp [frz] at e
  |p q=>
   cases q with
   |none=>simp only [frz,Option.some.injEq] at e;subst e;exact ⟨r,rfl⟩
   |some q=>
    obtain ⟨id,off⟩:=q
    simp only [frz] at e
    split at e
    ·rename_i x hx
     cases ho:(x.own&&Nat.ble base id) with
     |false=>rw [ho] at e;cases e
     |true=>
      rw [ho,cond_true] at e
      split at e
      ·rename_i cs hcs
       simp only [Option.some.injEq] at e;subst e
       simp only [VRel] at r
       obtain ⟨b,o,C,e1,rfl⟩:=r
       obtain ⟨rfl,arr,z2,z3,z4⟩:=blk hx ho e1
       obtain ⟨y1,y2⟩:=frzs_rel ih hcs (z3.drop off)
       refine ⟨?_,by simp only [AV.nor];exact y2⟩
       simp only [VRel]
       refine ⟨b,0+off,_,rfl,fun i u hu=>?_,y2,y1⟩
       have hn:=(z3.drop off).nif hu
       rw [List.getElem?_drop,List.getElem?_take] at hu
       split at hu
       ·rw [Nat.zero_add];exact z4 _ _ hu hn
       ·cases hu
      ·cases e
    ·cases e
  |sl q len cap=>
   cases q with
   |none=>
    simp only [frz,Option.some.injEq] at e;subst e
    simp only [VRel] at r
    exact ⟨nilvs ⟨none,0,by rw [r.2.2],(fun _=>rfl),(fun p z=>by cases z)⟩,rfl⟩
   |some q=>
    obtain ⟨id,off⟩:=q
    simp only [frz] at e
    simp only [VRel] at r
    obtain ⟨b,o,C,cap',e1,e2,e3,_⟩:=r
    split at e
    ·rename_i x hx
     cases ho:(x.own&&Nat.ble base id) with
     |false=>rw [ho] at e;cases e
     |true=>
      rw [ho,cond_true] at e
      split at e
      ·rename_i cs hcs
       simp only [Option.some.injEq] at e;subst e
       obtain ⟨rfl,arr,z2,z3,z4⟩:=blk hx ho e1
       obtain ⟨y1,y2⟩:=frzs_rel ih hcs ((z3.drop off).take (len*x.esz))
       refine ⟨?_,by simp only [AV.nor];exact y2⟩
       simp only [VRel]
       refine .inl ⟨b,0+off,none,cap',_,e2,(fun _=>rfl),e3,trivial,fun i u hu=>?_,y2,y1⟩
       have hn:=((z3.drop off).take (len*x.esz)).nif hu
       rw [List.getElem?_take] at hu
       split at hu
       ·rw [List.getElem?_drop,List.getElem?_take] at hu
        split at hu
        ·rw [Nat.zero_add];exact z4 _ _ hu hn
        ·cases hu
       ·cases hu
      ·cases e
    ·cases hl:Nat.beq len 0 with
     |false=>rw [hl] at e;cases e
     |true=>
      rw [hl,cond_true] at e
      simp only [Option.some.injEq] at e;subst e
      have hl:=beq_true.1 hl;subst hl
      exact ⟨nilvs ⟨_,_,e2,(fun z=>by cases z),(fun p z _=>by cases z;rfl)⟩,rfl⟩
  |fn g x y=>
   simp only [frz] at e
   split at e
   ·rename_i x' hx
    split at e
    ·rename_i y' hy
     simp only [Option.some.injEq] at e;subst e
     simp only [VRel] at r ⊢
     obtain ⟨p,q,rfl,h1,h2⟩:=r
     obtain ⟨a1,a2⟩:=frzs_rel ih hx h1
     obtain ⟨b1,b2⟩:=frzs_rel ih hy h2
     exact ⟨⟨p,q,rfl,a1,b1⟩,by simp only [AV.nor,a2,b2,Bool.and_self]⟩
    ·cases e
   ·cases e
  |agg cs=>
   simp only [frz] at e
   split at e
   ·rename_i cs' hc
    simp only [Option.some.injEq] at e;subst e
    simp only [VRel] at r ⊢
    obtain ⟨x,rfl,h1⟩:=r
    obtain ⟨a1,a2⟩:=frzs_rel ih hc h1
    exact ⟨⟨x,rfl,a1⟩,by simp only [AV.nor,a2]⟩
   ·cases e
  |tup cs=>
   simp only [frz] at e
   split at e
   ·rename_i cs' hc
    simp only [Option.some.injEq] at e;subst e
    simp only [VRel] at r ⊢
    obtain ⟨x,rfl,h1⟩:=r
    obtain ⟨a1,a2⟩:=frzs_rel ih hc h1
    exact ⟨⟨x,rfl,a1⟩,by simp only [AV.nor,a2]⟩
   ·cases e
  |vs len cap cs=>
   simp only [frz] at e
   cases okv with
   |true=>
    simp only [cond_true,Option.some.injEq] at e;subst e
    simp only [VRel] at r ⊢
    rcases r with ⟨b,o,sp,cap',us,rfl,h0,h1,h2,h3,hr,h4⟩|⟨r1,r2,r3,r4⟩
    ·exact ⟨.inl ⟨b,o,sp,cap',us,rfl,h0,h1,trivial,h3.mono (hv rfl),hr,VRels.nor (hv rfl) cs _ hr h4⟩,by simp only [AV.nor];exact hr⟩
    ·subst r3
     exact ⟨.inr ⟨r1,r2,rfl,trivial⟩,rfl⟩
   |false=>
    simp only [cond_false] at e
    cases hl:Nat.beq len 0 with
    |false=>rw [hl] at e;cases e
    |true=>
     rw [hl,cond_true] at e
     simp only [Option.some.injEq] at e;subst e
     have hl:=beq_true.1 hl;subst hl
     refine ⟨nilvs ?_,rfl⟩
     simp only [VRel] at r
     rcases r with ⟨b,o,sp,cap',us,rfl,h0,_⟩|⟨r1,_⟩
     ·exact ⟨_,_,rfl,(fun z=>by cases z),(fun p z hc=>by cases z;exact h0 hc)⟩
     ·exact ⟨none,0,r1,(fun _=>rfl),(fun p z=>by cases z)⟩
  |vp cs=>
   simp only [frz] at e
   cases okv with
   |true=>
    simp only [cond_true,Option.some.injEq] at e;subst e
    simp only [VRel] at r ⊢
    obtain ⟨b,o,us,rfl,h3,hr,h4⟩:=r
    exact ⟨⟨b,o,us,rfl,h3.mono (hv rfl),hr,VRels.nor (hv rfl) cs _ hr h4⟩,by simp only [AV.nor];exact hr⟩
   |false=>cases e
  |mp cs=>
   simp only [frz] at e
   cases okv with
   |true=>
    simp only [cond_true] at e
    split at e
    ·rename_i cs' hc
     simp only [Option.some.injEq] at e;subst e
     simp only [VRel] at r ⊢
     obtain ⟨b,us,rfl,h3,h4⟩:=r
     obtain ⟨a1,a2⟩:=frzs_rel ih hc h4
     exact ⟨⟨b,us,rfl,hv rfl _ _ _ h3,a1⟩,by simp only [AV.nor,a2]⟩
    ·cases e
   |false=>cases e
mutual
theorem nn_rel {θ:Th}:∀ (a:AV) (v:Value),VRel θ a v→VRel θ (AV.nn a) v
 | .b _,_,r=>r
 | .i _ _,_,r=>r
 | .f _ _,_,r=>r
 | .c _ _ _,_,r=>r
 | .s _,_,r=>r
 | .p _,_,r=>r
 | .lp _ _,_,r=>r
 | .sl none _ _,_,r=>by
  simp only [VRel] at r
  simp only [AV.nn,VRel]
  exact .inr ⟨r.2.2,trivial,trivial,trivial⟩
 | .sl (some _) _ _,_,r=>r
 | .fn _ _ _,_,r=>r
 | .nilfn,_,r=>r
 | .nilif,_,r=>r
 | .agg cs,_,r=>by
  simp only [VRel] at r
  simp only [AV.nn,VRel]
  obtain ⟨x,rfl,h1⟩:=r
  exact ⟨x,rfl,nns_rel cs _ h1⟩
 | .tup cs,_,r=>by
  simp only [VRel] at r
  simp only [AV.nn,VRel]
  obtain ⟨x,rfl,h1⟩:=r
  exact ⟨x,rfl,nns_rel cs _ h1⟩
 | .vs _ _ _,_,r=>r
 | .vp _,_,r=>r
 | .mp _,_,r=>r
theorem nns_rel {θ:Th}:∀ (a:List AV) (v:List Value),VRels θ a v→VRels θ (AV.nns a) v
 | [],_,r=>r
 |x::xs,_,r=>by
  simp only [VRels,AV.nns] at r ⊢
  obtain ⟨u,us,rfl,h1,h2⟩:=r
  exact ⟨u,us,rfl,nn_rel x u h1,nns_rel xs us h2⟩
end
theorem hglb_get {h:AHeap}{id:Nat}{x:ABlk}:∀ {k:Nat},hget (hglb h k) id=some x→id<k∧∃ y,hget h id=some y∧AV.nors y.cells=true∧x=⟨false,false,y.ty,y.esz,y.cells⟩
 |0,g=>by simp [hglb,hget_nil] at g
 |k+1,g=>by
  simp only [hglb] at g
  split at g
  ·rename_i b hb
   cases q:AV.nors b.cells with
   |false=>
    rw [q,cond_false] at g
    obtain ⟨a,b⟩:=hglb_get g
    exact ⟨by omega,b⟩
   |true=>
    rw [q,cond_true,hget_cons] at g
    by_cases z:k=id
    ·rw [if_pos z] at g;cases g;subst z;exact ⟨by omega,b,hb,q,rfl⟩
    ·rw [if_neg z] at g
     obtain ⟨a,b⟩:=hglb_get g
     exact ⟨by omega,b⟩
  ·obtain ⟨a,b⟩:=hglb_get g
   exact ⟨by omega,b⟩
theorem hown_get {h:AHeap}{ng nb:Nat}{l:List Nat}{id':Nat}{x':ABlk}:∀ {r:List Nat}{j:Nat}{h':AHeap},hown h ng nb l j r=some h'→hget h' id'=some x'→
  j≤id'∧id'<j+r.length∧∃ id x cs,newId ng nb l id=some id'∧ng≤id∧hget h id=some x∧x.own=true∧frzs (frz true ng (hhide l h) 8) x.cells=some cs∧x'=⟨true,x.opn,x.ty,x.esz,cs⟩
 | [],j,_,e,g=>by simp only [hown,Option.some.injEq] at e;subst e;simp [hget_nil] at g
 |id::r,j,h',e,g=>by
  simp only [hown] at e
  split at e
  ·cases e
  ·rename_i j' hj
   cases q:(Nat.beq j' j&&Nat.ble ng id) with
   |false=>rw [q] at e;cases e
   |true=>
    rw [q,cond_true] at e
    simp only [Bool.and_eq_true] at q
    have q1:=beq_true.1 q.1;subst q1
    have q2:=Nat.le_of_ble_eq_true q.2
    split at e
    ·obtain ⟨a1,a2,a3⟩:=hown_get e g
     exact ⟨by omega,by simp only [List.length_cons];omega,a3⟩
    ·rename_i x hx
     cases ho:x.own with
     |false=>rw [ho] at e;cases e
     |true=>
      rw [ho,cond_true] at e
      split at e
      ·rename_i cs hcs
       split at e
       ·rename_i h2 hh2
        simp only [Option.some.injEq] at e;subst e
        rw [hget_cons] at g
        by_cases z:j'=id'
        ·rw [if_pos z] at g;cases g
         subst z
         exact ⟨Nat.le_refl _,by simp,id,x,cs,hj,q2,hx,ho,hcs,rfl⟩
        ·rw [if_neg z] at g
         obtain ⟨a1,a2,a3⟩:=hown_get hh2 g
         exact ⟨by omega,by simp only [List.length_cons];omega,a3⟩
       ·cases e
      ·cases e
end Go.Proofs.YtchgkmdonhdfeaaGreatDoor.Ab
/- The word of a call by contents is worth as much as any oracle's. No condition: lemmas only. -/
set_option linter.unusedVariables false
set_option linter.unusedSimpArgs false
namespace Go.Proofs.YtchgkmdonhdfeaaGreatDoor.Ab
open Go
section
variable {P:Program}{ng:Nat}
open Classical in
noncomputable def Th.inn (θ:Th) (ng:Nat) (q:Bool) (h:AHeap) (w:World):Th:=
 ⟨fun id=>if id<ng then θ id else none,fun b o=>if q=false∧(∃ id x o' c,hget h id=some x∧x.own=true∧θ id=some (b,o',c)) then wcell w b o else θ.fz b o⟩
theorem inn_fle {θ:Th}{q:Bool}{h:AHeap}{w:World}(m:Mem P ng θ h w):Th.fle θ (θ.inn ng q h w):=fun b o u e=>by
 simp only [Th.inn]
 split
 ·exact m.fzc b o u e
 ·exact e
theorem inn_mem {θ:Th}{q:Bool}{h:AHeap}{w:World}(m:Mem P ng θ h w):Mem P ng (θ.inn ng q h w) (hglb h ng) w:=by
 refine ⟨fun g hg=>?_,⟨ng,fun id hid=>?_⟩,fun id x e=>?_,fun id id' x x' b o c o' c' e qx=>?_,fun b o u e=>?_,fun id x b o c o' u e qx=>?_⟩
 ·simp only [Th.inn,if_pos hg];exact m.glob g hg
 ·simp only [Th.inn,if_neg (show ¬ id<ng by omega)]
 ·obtain ⟨h1,y,h2,h3,rfl⟩:=hglb_get e
  obtain ⟨b,o,c,g1,g2,g3⟩:=m.hp id y h2
  refine ⟨b,o,c,by simp only [Th.inn,if_pos h1];exact g1,g2,?_⟩
  unfold BRel
  rw [if_neg (by simp)]
  intro i v hv
  obtain ⟨u,u1,u2⟩:=g3.at P hv
  have hnor:∀ {l:List AV} {i:Nat} {v:AV},AV.nors l=true→l[i]? = some v→v.nor=true:=by
   intro l
   induction l with
   |nil=>intro i v _ hv;simp at hv
   |cons x l ih=>
    intro i v hn hv
    simp only [AV.nors,Bool.and_eq_true] at hn
    cases i with
    |zero=>simp at hv;subst hv;exact hn.1
    |succ i=>simp at hv;exact ih hn.2 hv
  exact ⟨u,u1,VRel.nor (inn_fle m) v u (hnor h3 hv) u2⟩
 ·obtain ⟨_,y,_,_,rfl⟩:=hglb_get e
  cases qx
 ·simp only [Th.inn] at e
  split at e
  ·exact e
  ·exact m.fzc b o u e
 ·obtain ⟨_,y,_,_,rfl⟩:=hglb_get e
  cases qx
theorem inn_args {θ:Th}{h:AHeap}{w:World}{args args':List AV}{vs:List Value}(m:Mem P ng θ h w)(e:frzs (frz true 0 (bif AV.nors args then [] else h) 8) args=some args')(r:VRels θ args vs) :
  VRels (θ.inn ng (AV.nors args) h w) args' vs∧AV.nors args'=true:=by
 cases q:AV.nors args with
 |true=>
  rw [q,cond_true] at e
  exact frzs_rel (frz_rel (P:=P) (w:=w) (fun id x e=>by simp [hget_nil] at e) (fun id x b o c e=>by simp [hget_nil] at e) (fun _=>inn_fle m) 8) e r
 |false=>
  rw [q,cond_false] at e
  refine frzs_rel (frz_rel (P:=P) (w:=w) m.hp (fun id x b o c e1 e2 _ e3 i u hu hn=>?_) (fun _=>inn_fle m) 8) e r
  simp only [Th.inn]
  rw [if_pos ⟨rfl,id,x,o,c,e1,e2,e3⟩]
  exact wcell_of hu hn
noncomputable def outFz (θ θ':Th) (ng:Nat) (q:Bool) (l:List Nat) (h':AHeap) (w':World):Nat→Nat→Option Value:=by
 classical exact fun b o=>if ∃ id x o' c,hget h' id=some x∧x.own=true∧ng≤id∧id∉l∧θ' id=some (b,o',c) then wcell w' b o else if q=true then θ'.fz b o else θ.fz b o
theorem out_facts {θ θ':Th}{q:Bool}{h h':AHeap}{w w':World}(m:Mem P ng θ h w){n':Nat}(hx:Th.ext (θ.inn ng q h w) θ' ng n')(hc:RepM P (cx w (hglb h ng) ng ng (θ.inn ng q h w) 0) θ' (fun _=>none) (F0 h') w')(l:List Nat) :
  Chg (fun _=>False) w w'∧(∀ id x b o c,hget h' id=some x→x.own=true→ng≤id→θ' id=some (b,o,c)→w.heap.size≤b)∧
   Th.fle θ ⟨θ.pl,outFz θ θ' ng q l h' w'⟩∧(∀ b o u,outFz θ θ' ng q l h' w' b o=some u→θ.fz b o=some u∨(w.heap.size≤b∧wcell w' b o=some u))∧
   (q=true→Th.fle θ' ⟨θ'.pl,outFz θ θ' ng q l h' w'⟩):=by
 have noM:∀ b,¬ M0 (hglb h ng) ng (θ.inn ng q h w) b:=fun b ⟨id,x,o,c,e,z,_⟩=>by
  obtain ⟨_,y,_,_,rfl⟩:=hglb_get e
  cases z
 have hchg:Chg (fun _=>False) w w':=hc.chg.mono fun b _ z=>(noM b z).elim
 have hnew:∀ id x b o c,hget h' id=some x→x.own=true→ng≤id→θ' id=some (b,o,c)→w.heap.size≤b:=fun id x b o c e1 e2 e3 e4=>by
  rcases hc.ownok id x b o c e1 e2 e3 e4 with z|z
  ·exact (noM b z).elim
  ·exact z
 have fq:∀ b o u,θ'.fz b o=some u→q=true→θ.fz b o=some u∨w.heap.size≤b:=fun b o u e eq=>by
  rcases hc.fzn b o u e with z|z
  ·subst eq
   have z':(θ.inn ng true h w).fz b o=some u:=z
   simp only [Th.inn] at z'
   rw [if_neg (fun q=>by cases q.1)] at z'
   exact .inl z'
  ·exact .inr z
 refine ⟨hchg,hnew,fun b o u e=>?_,fun b o u e=>?_,fun eq b o u e=>?_⟩
 ·simp only [outFz]
  split
  ·rename_i hs
   obtain ⟨id,x,o',c,e1,e2,e3,e4,e5⟩:=hs
   have h1:=hnew id x b o' c e1 e2 e3 e5
   have h2:=wcell_lt (m.fzc b o u e)
   omega
  ·split
   ·exact hx.fz b o u (inn_fle m b o u e)
   ·exact e
 ·simp only [outFz] at e
  split at e
  ·rename_i hs
   obtain ⟨id,x,o',c,e1,e2,e3,e4,e5⟩:=hs
   exact .inr ⟨hnew id x b o' c e1 e2 e3 e5,e⟩
  ·split at e
   ·rename_i eq
    rcases fq b o u e eq with z|z
    ·exact .inl z
    ·exact .inr ⟨z,hc.fzc b o u e⟩
   ·exact .inl e
 ·simp only [outFz]
  split
  ·exact hc.fzc b o u e
  ·subst eq;simpa using e
theorem hglb_hb {h:AHeap}:HB (hglb h ng) ng:=fun id x e=>(hglb_get e).1
theorem OSound.evP {O:Orc}{fs:Nat→Option AFn}{F:Nat}(hP:P.follows .mixedOrders=true)(hO:OSound P ng O)(hfs:∀ g f,fs g=some f→∃ fn,P.funcs[g]? = some fn∧okFn P ng fn f=true) :
  OSound P ng (Ab.evP ng O fs F):=fun g args h n fl v r he=>by
 unfold Ab.evP at he
 split at he
 ·exact hO g args h n fl v r he
 ·rename_i f hf
  obtain ⟨fn,hg,ok⟩:=hfs g f hf
  have hcall:CallOk P g:=by
   simp only [okFn,Bool.and_eq_true] at ok
   obtain ⟨⟨⟨⟨o1,o2⟩,o3⟩,o4⟩,o5⟩:=ok
   split at o5
   ·rename_i c hc
    exact ⟨fn,c,hg,hc,by simpa using o1⟩
   ·cases o5
  refine ⟨hcall,?_⟩
  cases hm:(Nat.beq fl (n+1)||Nat.beq fl n) with
  |false=>
   rw [hm,cond_false] at he
   cases hng:f.body.nog with
   |false=>
    rw [hng,cond_false] at he
    cases hcd:(AV.olds n args&&hold n h&&Nat.ble ng n&&Nat.ble (flOf fl n) n) with
    |false=>rw [hcd] at he;cases he
    |true=>
     rw [hcd,cond_true] at he
     simp only [Bool.and_eq_true] at hcd
     obtain ⟨⟨⟨c1,c2⟩,c3⟩,c4⟩:=hcd
     split at he
     ·rename_i v1 h1 n1 he1
      simp only [Option.some.injEq,Prod.mk.injEq] at he
      obtain ⟨rfl,rfl⟩:=he
      exact fun hb=>⟨evFn_heir2 hO.heir hb he1,fun θ w cargs hm ha hf=>evFn_sound4 hP hO hg ok (Nat.le_of_ble_eq_true c3) (Nat.le_of_ble_eq_true c4) c1 c2 he1 hb hm ha hf⟩
     ·cases he
   |true=>
    rw [hng,cond_true] at he
    split at he
    ·rename_i v1 h1 n1 he1
     simp only [Option.some.injEq,Prod.mk.injEq] at he
     obtain ⟨rfl,rfl⟩:=he
     exact fun hb=>⟨evFn_heir hO.heir hng hb he1,fun θ w cargs hm ha hf=>evFn_sound hP hO hg ok hng he1 hb hm ha hf⟩
    ·cases he
  |true=>
   rw [hm,cond_true] at he
   split at he
   ·cases he
   ·rename_i args' hargs
    split at he
    ·cases he
    ·rename_i v1 h' n' he1
     cases hz:Nat.beq fl (n+1) with
     |true=>
      rw [hz,cond_true] at he
      split at he
      ·rename_i v' hv'
       simp only [Option.some.injEq,Prod.mk.injEq] at he
       obtain ⟨rfl,rfl⟩:=he
       refine fun hb=>⟨trivial,fun θ w cargs hm ha _=>?_⟩
       obtain ⟨a1,a2⟩:=inn_args hm hargs ha
       refine (evFn_sound2 hP hO hg ok he1 hglb_hb (inn_mem hm) a1 (fun id hid=>by simp only [Th.inn,if_neg (show ¬ id<ng by omega)])).mono fun e w' hx=>?_
       obtain ⟨_,u,rfl,θ',x1,x2,x3⟩:=hx
       obtain ⟨f1,f2,f3,f4,f5⟩:=out_facts hm x1 x3 []
       refine ⟨u,rfl,_,f3,f4,?_,f1⟩
       refine (frz_rel (P:=P) (θ:=θ') (w:=w') (θ':=⟨θ.pl,outFz θ θ' ng (AV.nors args) [] h' w'⟩) x3.hp (fun id x b o c e1 e2 e3 e4 i u hu hnf=>?_) (fun q b o u e=>f5 q b o u e) 8 _ _ _ hv' x2).1
       simp only [outFz]
       rw [if_pos ⟨id,x,o,c,e1,e2,e3,by simp,e4⟩]
       exact wcell_of hu hnf
      ·cases he
     |false=>
      rw [hz,cond_false] at he
      rw [hz,Bool.false_or] at hm
      have hm:=beq_true.1 hm;subst hm
      cases hq:AV.nors args with
      |false=>rw [hq] at he;cases he
      |true=>
       rw [hq,cond_true] at he
       split at he
       ·rename_i v' hv'
        split at he
        ·rename_i news hnews
         simp only [Option.some.injEq,Prod.mk.injEq] at he
         obtain ⟨rfl,rfl⟩:=he
         generalize hL:ownIds ng v1=L at hv' hnews
         refine fun hb=>⟨⟨by simp,fun id x e=>?_⟩,fun θ w cargs hm ha hfree=>?_⟩
         ·obtain ⟨b1,b2,id0,x0,cs,_,_,_,_,_,rfl⟩:=hown_get hnews e
          exact .inr ⟨b1,by omega,rfl⟩
         ·obtain ⟨a1,a2⟩:=inn_args hm hargs ha
          rw [hq] at a1
          refine (evFn_sound2 hP hO hg ok he1 hglb_hb (inn_mem hm) a1 (fun id hid=>by simp only [Th.inn,if_neg (show ¬ id<ng by omega)])).mono fun e w' hx=>?_
          obtain ⟨_,u,rfl,θ',x1,x2,x3⟩:=hx
          obtain ⟨f1,f2,f3,f4,f5⟩:=out_facts hm x1 x3 L
          have f5:=f5 rfl
          let θ2:Th:=⟨fun id=>if fl≤id∧id<fl+L.length then (match L[id-fl]? with|some old=>θ' old|none=>none) else θ id,outFz θ θ' ng true L h' w'⟩
          have hfl:Th.fle θ' θ2:=f5
          have hplace:∀ id id',newId ng fl L id=some id'→θ2 id'=θ' id:=fun id id' hid=>by
           unfold newId at hid
           cases hb':Nat.ble ng id with
           |true=>
            rw [hb',cond_true] at hid
            split at hid
            ·rename_i j hj
             simp only [Option.some.injEq] at hid;subst hid
             have hjl:=posOf_get hj
             have:j<L.length:=(List.getElem?_eq_some_iff.1 hjl).1
             simp only [θ2,if_pos (show fl≤fl+j∧fl+j<fl+L.length by omega),Nat.add_sub_cancel_left,hjl]
            ·cases hid
           |false=>
            rw [hb',cond_false] at hid
            simp only [Option.some.injEq] at hid;subst hid
            have hlt:id<ng:=by
             rcases Nat.lt_or_ge id ng with z|z
             ·exact z
             ·rw [Nat.ble_eq_true_of_le z] at hb';cases hb'
            have h1:=hm.glob id hlt
            have h2:=x3.glob id hlt
            have:¬ (fl≤id∧id<fl+L.length):=fun z=>by
             have:=hfree id z.1 z.2
             rw [h1] at this;cases this
            simp only [θ2,if_neg this]
            rw [h2];exact h1
          have hfz:Fzd ng (hhide L h') θ' θ2 w':=fun id x b o c e1 e2 e3 e4 i u hu hnf=>by
           rw [hget_hhide] at e1
           split at e1
           ·cases e1
           ·rename_i hn
            simp only [θ2,outFz]
            rw [if_pos ⟨id,x,o,c,e1,e2,e3,hn,e4⟩]
            exact wcell_of hu hnf
          have hpl:∀ id x,hget (hhide L h') id=some x→∃ b o c,θ' id=some (b,o,c)∧b<w'.heap.size∧BRel P θ' x b o c w':=fun id x e=>by
           rw [hget_hhide] at e
           split at e
           ·cases e
           ·exact x3.hp id x e
          have blk:∀ id x b o c,hget news id=some x→θ2 id=some (b,o,c)→∃ id0 x0 cs,newId ng fl L id0=some id∧ng≤id0∧hget h' id0=some x0∧x0.own=true∧frzs (frz true ng (hhide L h') 8) x0.cells=some cs∧x=⟨true,x0.opn,x0.ty,x0.esz,cs⟩∧θ' id0=some (b,o,c)∧w.heap.size≤b:=by
           intro id x b o c e t
           obtain ⟨b1,b2,id0,x0,cs,c1,c2,c3,c4,c5,rfl⟩:=hown_get hnews e
           rw [hplace _ _ c1] at t
           exact ⟨id0,x0,cs,c1,c2,c3,c4,c5,rfl,t,f2 id0 x0 b o c c3 c4 c2 t⟩
          refine ⟨u,rfl,θ2,⟨fun id=>?_,f3⟩,nn_rel _ _ (ren_rel hplace hfl _ _ _ hv' x2),⟨fun g hg=>?_,?_,fun s cs e=>by simp [F0] at e,fun s s' cs cs' e=>by simp [F0] at e,fun id x e=>?_,fun s cs id x b o c e=>by simp [F0] at e,fun id id' x x' b o c o' c' e qx e' hne t t'=>?_,
           fun id x b o c e qx _ t=>?_,fun id x b o c e t=>?_,f1.mono (fun _ _ z=>z.elim),fun b o u e=>?_,fun s cs b o u e=>by simp [F0] at e,fun id x b o c o' u e qx t z=>?_,fun b o u e=>?_⟩⟩
          ·by_cases z:fl≤id∧id<fl+L.length
           ·exact .inr ⟨hfree id z.1 z.2,z.1,z.2⟩
           ·exact .inl (by simp only [θ2,if_neg z])
          ·have:¬ (fl≤g∧g<fl+L.length):=fun z=>by
            have:=hfree g z.1 z.2
            rw [hm.glob g hg] at this;cases this
           simp only [θ2,if_neg this];exact hm.glob g hg
          ·obtain ⟨B,hB⟩:=hm.fin
           refine ⟨B+fl+L.length,fun id hid=>?_⟩
           simp only [θ2,if_neg (show ¬ (fl≤id∧id<fl+L.length) by omega)]
           exact hB id (by omega)
          ·simp only [F0] at e
           obtain ⟨b1,b2,id0,x0,cs,c1,c2,c3,c4,c5,rfl⟩:=hown_get hnews e
           obtain ⟨b,o,c,g1,g2,g3⟩:=x3.hp id0 x0 c3
           refine ⟨b,o,c,by rw [hplace _ _ c1];exact g1,g2,?_⟩
           unfold BRel at g3 ⊢
           rw [if_pos c4] at g3
           rw [if_pos rfl]
           obtain ⟨z0,arr,z1,z2,z3,z4⟩:=g3
           have hlen:=frzs_len c5
           refine ⟨z0,arr,z1,by simp only [hlen];exact z2,?_,?_⟩
           ·simp only [hlen]
            exact (frzs_rel (frz_rel (P:=P) (w:=w') hpl hfz (fun _=>hfl) 8) c5 z3).1
           ·simp only [hlen];exact z4
          ·obtain ⟨i0,x0,cs,c1,c2,c3,c4,_,_,c6,_⟩:=blk id x b o c e t
           obtain ⟨i1,y0,ds,d1,d2,d3,d4,_,_,d6,_⟩:=blk id' x' b o' c' e' t'
           refine x3.dhh i0 i1 x0 y0 b o c o' c' c3 c4 d3 (fun z=>?_) c6 d6
           subst z
           rw [c1] at d1;cases d1;exact hne rfl
          ·exact .inr (blk id x b o c e t).choose_spec.choose_spec.choose_spec.2.2.2.2.2.2.2
          ·exact .inr (blk id x b o c e t).choose_spec.choose_spec.choose_spec.2.2.2.2.2.2.2
          ·rcases f4 b o u e with z|⟨_,z⟩
           ·exact f1.wc (hm.fzc b o u z) (fun x=>x)
           ·exact z
          ·obtain ⟨i0,x0,cs,c1,c2,c3,c4,_,_,c6,c7⟩:=blk id x b o c e t
           simp only [θ2,outFz] at z
           split at z
           ·rename_i hs
            obtain ⟨i1,y0,o1,c',d1,d2,d3,d4,d5⟩:=hs
            refine x3.dhh i0 i1 x0 y0 b o c o1 c' c3 c4 d1 (fun z=>?_) c6 d5
            subst z
            have hmem:i0∈L:=by
             unfold newId at c1
             rw [Nat.ble_eq_true_of_le c2,cond_true] at c1
             split at c1
             ·rename_i j hj
              exact List.mem_of_getElem? (posOf_get hj)
             ·cases c1
            exact d4 hmem
           ·simp only [if_true] at z
            exact x3.fzh i0 x0 b o c o' u c3 c4 c6 z
          ·rcases f4 b o u e with z|⟨z,_⟩
           ·exact .inl z
           ·exact .inr z
        ·cases he
       ·cases he
theorem OSound.evV {O:Orc}{fs:Nat→Option AFn}{F:Nat}(hP:P.follows .mixedOrders=true)(hO:OSound P ng O)(hfs:∀ g f,fs g=some f→∃ fn,P.funcs[g]? = some fn∧okFn P ng fn f=true) :
  ∀ d,OSound P ng (Ab.evV ng O fs F d)
 |0=>hO
 |d+1=>(OSound.evV hP hO hfs d).evP hP hfs
end
end Go.Proofs.YtchgkmdonhdfeaaGreatDoor.Ab
