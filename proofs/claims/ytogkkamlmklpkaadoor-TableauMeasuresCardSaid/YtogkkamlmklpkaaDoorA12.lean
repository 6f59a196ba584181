/- What an evaluation comes to: the memory's heirs, numbers that grow; and regions whose operations go in the order of the text. No condition: lemmas only. -/
import Derived.Test.YtogkkamlmklpkaaDoorA11
set_option linter.unusedVariables false
set_option linter.unusedSimpArgs false
namespace Go.Proofs.YtogkkamlmklpkaaDoor.Ab
open Go

theorem undef_put (s : AS) (d : Option Nat) : s.undef d = s.put d ⟨some (.tup []), [], [], s.n, none⟩ := rfl
theorem undef_rel {θ : Th} {σ : Nat → Option Nat} {x : AV} (h : some (AV.tup []) = some x) : TRel θ σ x undef := by
  cases h
  exact ⟨#[], rfl, rfl⟩

section
variable {O : Orc} {fl : Nat} {r : Res}

theorem op_ex {d : Option Nat} {op : AOp} {s : AS} {k : Eff → Foot → Option Res} (hO : OHeir O) (hb : HB s.h s.n) (h : evOp O fl d op s k = some r) : ∃ e f, k e f = some r ∧ HeirE s e := by
  obtain ⟨e, f, q⟩ := evOp_ex (evOp_heir hO hb h)
  exact ⟨e, f, (kg_of q).2, (kg_of q).1⟩

theorem evOps_heir (hO : OHeir O) {k : AS → Option Res} : ∀ (l : List AOper) (s : AS), HB s.h s.n → evOps O fl l s k = some r → ∃ s', k s' = some r ∧ Heir s.h s.n s'.h s'.n
  | [], s, _, h => ⟨s, h, Heir.refl _ _⟩
  | o :: l, s, hb, h => by
    have run : evOp O fl o.dst o.op s (fun e _ => evOps O fl l (s.put o.dst e) k) = some r → ∃ s', k s' = some r ∧ Heir s.h s.n s'.h s'.n := fun h => by
      obtain ⟨e, f, h1, h2⟩ := op_ex hO hb h
      have hp := h2.put o.dst
      obtain ⟨s', g1, g2⟩ := evOps_heir hO l _ (hp.hb hb) h1
      exact ⟨s', g1, hp.trans g2⟩
    have skip : evOps O fl l (s.undef o.dst) k = some r → ∃ s', k s' = some r ∧ Heir s.h s.n s'.h s'.n := fun h => evOps_heir hO l (s.undef o.dst) hb h
    simp only [evOps] at h
    split at h
    · exact run h
    · rename_i t w hgd
      clear hgd
      split at h
      · cases w
        · exact skip h
        · exact run h
      · cases w
        · exact run h
        · exact skip h
      · exact skip h
      · cases h

theorem hb_hide {s : AS} {l : List Nat} (hb : HB s.h s.n) : HB (hhide l s.h) s.n := fun id x e => by
  rw [hget_hhide] at e
  split at e
  · cases e
  · exact hb id x e

theorem evDraw_heir (hO : OHeir O) {k : AS → Option Res} : ∀ (l : List AOper) (j : Nat) (s : AS) (rs : List Rec), HB s.h s.n → evDraw O fl j l s rs k = some r → ∃ s', k s' = some r ∧ Heir s.h s.n s'.h s'.n
  | [], _, s, _, _, h => ⟨s, h, Heir.refl _ _⟩
  | o :: l, j, s, rs, hb, h => by
    have run : (evOp O fl o.dst o.op { s with h := hhide (hidden o.bef rs) s.h } fun e f =>
        match e.all with
        | some _ => none
        | none =>
          let x : Rec := ⟨j, f.hide s.n (hidden o.bef rs), o.dst, e⟩
          bif apartAll o.bef x rs then evDraw O fl (j + 1) l (s.put o.dst e) (x :: rs) k else none) = some r → ∃ s', k s' = some r ∧ Heir s.h s.n s'.h s'.n := fun h => by
      obtain ⟨e, f, h1, h2⟩ := op_ex (s := { s with h := hhide (hidden o.bef rs) s.h }) hO (hb_hide hb) h
      split at h1
      · cases h1
      · rename_i ha
        have h2 := (h2.wide ha).put o.dst
        simp only at h1
        cases hq : apartAll o.bef ⟨j, f.hide s.n (hidden o.bef rs), o.dst, e⟩ rs with
        | false => simp [hq] at h1
        | true =>
          rw [hq, cond_true] at h1
          obtain ⟨s', g1, g2⟩ := evDraw_heir hO l _ _ _ (h2.hb hb) h1
          exact ⟨s', g1, h2.trans g2⟩
    have skip : ∀ {x : Rec}, evDraw O fl (j + 1) l (s.undef o.dst) (x :: rs) k = some r → ∃ s', k s' = some r ∧ Heir s.h s.n s'.h s'.n := fun h => evDraw_heir hO l (j + 1) (s.undef o.dst) _ hb h
    simp only [evDraw] at h
    split at h
    · exact run h
    · rename_i t w hgd
      clear hgd
      split at h
      · cases w
        · exact skip h
        · exact run h
      · cases w
        · exact run h
        · exact skip h
      · exact skip h
      · cases h

theorem evLoop_heir {body : AS → (AE → AS → Option Res) → Option Res}
    (hb' : ∀ (s : AS) (k : AE → AS → Option Res), HB s.h s.n → body s k = some r → ∃ e s', k e s' = some r ∧ Heir s.h s.n s'.h s'.n) {k : AE → AS → Option Res} :
    ∀ (f : Nat) (s : AS), HB s.h s.n → evLoop body f s k = some r → ∃ e s', k e s' = some r ∧ Heir s.h s.n s'.h s'.n
  | 0, s, _, h => by simp [evLoop] at h
  | f + 1, s, hb, h => by
    simp only [evLoop] at h
    obtain ⟨e, s', h1, h2⟩ := hb' s _ hb h
    cases e with
    | nrm =>
      obtain ⟨e, s2, g1, g2⟩ := evLoop_heir hb' f s' (h2.hb hb) h1
      exact ⟨e, s2, g1, h2.trans g2⟩
    | ex id => exact ⟨_, s', h1, h2⟩
    | ret => exact ⟨_, s', h1, h2⟩

theorem keep_same {s s' : AS} {ts ls : List Nat} (h : s.keep ts ls = some s') : s'.h = s.h ∧ s'.n = s.n ∧ s'.fr = keepT s.fr ts ∧ s'.loc = keepL s.loc ls ∧ lpOk (keepL s.loc ls) (keepT s.fr ts) = true := by
  unfold AS.keep at h
  simp only at h
  cases q : lpOk (keepL s.loc ls) (keepT s.fr ts) with
  | false => simp [q] at h
  | true => simp [q] at h; subst h; exact ⟨rfl, rfl, rfl, rfl, rfl⟩

/-- No cut that numbers anew. -/
def AC.nog : AC → Bool
  | .seq a b => a.nog && b.nog
  | .ite _ a b => a.nog && b.nog
  | .blk _ a => a.nog
  | .loop a => a.nog
  | .cut _ _ a => a.nog
  | .cutg _ _ _ _ => false
  | _ => true

theorem evC_heir (hO : OHeir O) {F : Nat} : ∀ (c : AC) (s : AS) (k : AE → AS → Option Res), c.nog = true → HB s.h s.n → evC O fl F c s k = some r → ∃ e s', k e s' = some r ∧ Heir s.h s.n s'.h s'.n
  | .skip, s, k, _, _, h => ⟨.nrm, s, h, Heir.refl _ _⟩
  | .ret, s, k, _, _, h => ⟨.ret, s, h, Heir.refl _ _⟩
  | .reg false ops, s, k, _, hb, h => by
    obtain ⟨s', h1, h2⟩ := evOps_heir hO ops s hb h
    exact ⟨_, s', h1, h2⟩
  | .reg true ops, s, k, _, hb, h => by
    obtain ⟨s', h1, h2⟩ := evDraw_heir hO ops 0 s [] hb h
    exact ⟨_, s', h1, h2⟩
  | .seq a b, s, k, hg, hb, h => by
    simp only [AC.nog, Bool.and_eq_true] at hg
    simp only [evC] at h
    obtain ⟨e, s', h1, h2⟩ := evC_heir hO a s _ hg.1 hb h
    cases e with
    | nrm =>
      obtain ⟨e, s2, g1, g2⟩ := evC_heir hO b s' _ hg.2 (h2.hb hb) h1
      exact ⟨e, s2, g1, h2.trans g2⟩
    | ex id => exact ⟨_, s', h1, h2⟩
    | ret => exact ⟨_, s', h1, h2⟩
  | .ite c a b, s, k, hg, hb, h => by
    simp only [AC.nog, Bool.and_eq_true] at hg
    simp only [evC] at h
    split at h
    · exact evC_heir hO a s k hg.1 hb h
    · exact evC_heir hO b s k hg.2 hb h
    · cases h
  | .blk id a, s, k, hg, hb, h => by
    simp only [AC.nog] at hg
    simp only [evC] at h
    obtain ⟨e, s', h1, h2⟩ := evC_heir hO a s _ hg hb h
    cases e with
    | nrm => exact ⟨_, s', h1, h2⟩
    | ex j =>
      simp only at h1
      cases q : Nat.beq j id with
      | true => rw [q] at h1; exact ⟨_, s', h1, h2⟩
      | false => rw [q] at h1; exact ⟨_, s', h1, h2⟩
    | ret => exact ⟨_, s', h1, h2⟩
  | .loop a, s, k, hg, hb, h => by
    simp only [AC.nog] at hg
    simp only [evC] at h
    exact evLoop_heir (fun s k hb h => evC_heir hO a s k hg hb h) F s hb h
  | .exit id, s, k, _, _, h => ⟨.ex id, s, h, Heir.refl _ _⟩
  | .cutg _ _ _ _, _, _, hg, _, _ => by simp [AC.nog] at hg
  | .cut ts ls a, s, k, hg, hb, h => by
    simp only [AC.nog] at hg
    simp only [evC] at h
    split at h
    · rename_i s' hs
      obtain ⟨q1, q2, _⟩ := keep_same hs
      obtain ⟨e, s2, g1, g2⟩ := evC_heir hO a s' k hg (by rw [q1, q2]; exact hb) h
      exact ⟨e, s2, g1, by rw [q1, q2] at g2; exact g2⟩
    · cases h

theorem evFn_heir (hO : OHeir O) {F : Nat} {f : AFn} {args : List AV} {h h' : AHeap} {n n' : Nat} {v : AV} (hg : f.body.nog = true) (hb : HB h n) (he : evFn O fl F f args h n = some (v, h', n')) : Heir h n h' n' := by
  unfold evFn at he
  cases q : Nat.beq args.length f.nargs with
  | false => simp [q] at he
  | true =>
    rw [q, cond_true] at he
    obtain ⟨e, s', h1, h2⟩ := evC_heir hO f.body ⟨argsFr 0 args, [], h, n⟩ _ hg hb he
    have : outOf f.res s' = some (v, h', n') := by
      cases e <;> first | exact h1 | cases h1
    unfold outOf at this
    split at this <;> first | (simp only [Option.some.injEq, Prod.mk.injEq] at this; obtain ⟨_, rfl, rfl⟩ := this; exact h2) | cases this
end

/-! ### Regions in the order of the text -/
/-- The state of the walk: facts at a world; 'nf': the number at the end. -/
structure Good (P : Program) (C : Cx) (θ0 : Th) (n0 nf : Nat) (s : AS) (a : Act) (w : World) : Prop where
  ex : ∃ θ σ, Rep P C θ σ s.fs a w ∧ Th.ext θ0 θ n0 s.n ∧ Free θ s.n nf
  hb : HB s.h s.n
  le : n0 ≤ s.n

theorem Th.ext_trans {a b c : Th} {x y z : Nat} (h : Th.ext a b x y) (k : Th.ext b c y z) (h1 : x ≤ y) (h2 : y ≤ z) : Th.ext a c x z := ⟨fun id => (by
  rcases k.pl id with q | ⟨q1, q2, q3⟩
  · rcases h.pl id with p | ⟨p1, p2, p3⟩
    · exact .inl (q.trans p)
    · exact .inr ⟨p1, p2, by omega⟩
  · refine .inr ⟨?_, by omega, q3⟩
    rcases h.pl id with p | ⟨p1, p2, p3⟩
    · rw [← p]; exact q1
    · exact p1), Th.fle_trans h.fz k.fz⟩

theorem Good.step {P : Program} {C : Cx} {θ0 θ θ' : Th} {σ' : Nat → Option Nat} {n0 nf : Nat} {s s' : AS} {a' : Act} {w' : World} (he : Th.ext θ0 θ n0 s.n) (hf : Free θ s.n nf) (hl : n0 ≤ s.n) (hx : Th.ext θ θ' s.n s'.n) (hn : s.n ≤ s'.n)
    (hb : HB s'.h s'.n) (R : Rep P C θ' σ' s'.fs a' w') : Good P C θ0 n0 nf s' a' w' :=
  ⟨⟨θ', σ', R, Th.ext_trans he hx hl hn, fun id h1 h2 => by
    rcases hx.pl id with q | ⟨_, _, q⟩
    · rw [q]; exact hf id (by omega) h2
    · omega⟩, hb, Nat.le_trans hl hn⟩

def dstEq : Option Nat → Option Nat → Nat → Bool
  | none, none, _ => true
  | some a, some b, N => Nat.beq a b && Nat.blt a N
  | _, _, _ => false
theorem dstEq_of {x y : Option Nat} {N : Nat} (h : dstEq x y N = true) : x = y ∧ ∀ t, x = some t → t < N := by
  unfold dstEq at h
  split at h
  · exact ⟨rfl, fun t e => by cases e⟩
  · simp only [Bool.and_eq_true] at h
    have q := beq_true.1 h.1; subst q
    refine ⟨rfl, fun t e => ?_⟩
    cases e
    have := h.2
    rwa [Nat.blt_eq] at this
  · cases h
def okGuard (ops : List Oper) (N : Nat) : Option (Nat × Bool) → Option (Nat × Bool) → Bool
  | none, none => true
  | some (j, w), some (t, w') => (w == w') && Nat.blt t N && (match ops[j]? with | some o => (match o.dst with | some d => Nat.beq d t | none => false) | none => false)
  | _, _ => false

/-- A guard that is known. -/
theorem guard_of {ops : List Oper} {N : Nat} {j t : Nat} {w w' b : Bool} {a : Act} {θ : Th} {σ : Nat → Option Nat} (ok : okGuard ops N (some (j, w)) (some (t, w')) = true) (hs : a.tmps.size = N) (hv : TRel θ σ (.b b) (a.tmps.getD t undef)) :
    w' = w ∧ yielded ops.toArray a.tmps j = some b := by
  simp only [okGuard, Bool.and_eq_true] at ok
  obtain ⟨⟨o1, o2⟩, o3⟩ := ok
  have o1 : w = w' := by simpa using o1
  rw [Nat.blt_eq] at o2
  refine ⟨o1.symm, ?_⟩
  split at o3
  · rename_i o ho
    split at o3
    · rename_i d hd
      have o3 := beq_true.1 o3; subst o3
      have hv : a.tmps.getD d undef = .bool b := by simpa [TRel, VRel] using hv
      have hlt : d < a.tmps.size := by rw [hs]; exact o2
      have hg : a.tmps[d]? = some (.bool b) := by
        rw [Array.getD_eq_getD_getElem?, Array.getElem?_eq_getElem hlt] at hv
        rw [Array.getElem?_eq_getElem hlt]
        simpa using hv
      unfold yielded
      simp [ho, hd, hg]
    · cases o3
  · cases o3

/-- A guard whose operation was not run. -/
theorem guard_undef {ops : List Oper} {N : Nat} {j t : Nat} {w w' : Bool} {a : Act} {θ : Th} {σ : Nat → Option Nat} (ok : okGuard ops N (some (j, w)) (some (t, w')) = true) (hs : a.tmps.size = N) (hv : TRel θ σ (.tup []) (a.tmps.getD t undef)) :
    yielded ops.toArray a.tmps j = none := by
  simp only [okGuard, Bool.and_eq_true] at ok
  obtain ⟨⟨o1, o2⟩, o3⟩ := ok
  rw [Nat.blt_eq] at o2
  split at o3
  · rename_i o ho
    split at o3
    · rename_i d hd
      have o3 := beq_true.1 o3; subst o3
      have hv : a.tmps.getD d undef = .tuple #[] := by
        simp only [TRel, VRel, VRels] at hv
        obtain ⟨ds, e, h⟩ := hv
        obtain ⟨l⟩ := ds
        simp at h; rw [e, h]
      have hlt : d < a.tmps.size := by rw [hs]; exact o2
      have hg : a.tmps[d]? = some (.tuple #[]) := by
        rw [Array.getD_eq_getD_getElem?, Array.getElem?_eq_getElem hlt] at hv
        rw [Array.getElem?_eq_getElem hlt]
        simpa using hv
      unfold yielded
      simp [ho, hd, hg]
    · cases o3
  · cases o3

def okOper (P : Program) (ng N : Nat) (ops : List Oper) (o : Oper) (ao : AOper) : Bool := dstEq o.dst ao.dst N && okGuard ops N o.guard ao.guard && okOp P ng o.op ao.op
def okOps (P : Program) (ng N : Nat) (ops : List Oper) : List Oper → List AOper → Bool
  | [], [] => true
  | o :: l, ao :: al => okOper P ng N ops o ao && okOps P ng N ops l al
  | _, _ => false

theorem evOps_sound {P : Program} {C : Cx} {O : Orc} {θ0 : Th} {n0 nf : Nat} {r : Res} {ops : List Oper} {Q : Exit → Act → World → Prop} {k : AS → Option Res} (hO : OSound P C.ng O)
    (hn : ∀ s', HB s'.h s'.n → k s' = some r → s'.n ≤ nf) (hk : ∀ s' a' w', k s' = some r → Good P C θ0 n0 nf s' a' w' → Q .normal a' w') :
    ∀ (l : List Oper) (al : List AOper) (s : AS) (a : Act) (w : World), okOps P C.ng C.N ops l al = true → Good P C θ0 n0 nf s a w → evOps O C.fl al s k = some r → wpList P ops.toArray Q l a w
  | [], [], s, a, w, _, g, h => hk s a w h g
  | o :: l, ao :: al, s, a, w, ok, g, h => by
    simp only [okOps, okOper, Bool.and_eq_true] at ok
    obtain ⟨⟨⟨ok1, ok2⟩, ok3⟩, ok4⟩ := ok
    obtain ⟨hd, hdN⟩ := dstEq_of ok1
    obtain ⟨⟨θ, σ, R, hx, hf⟩, hb, hle⟩ := g
    have run : evOp O C.fl ao.dst ao.op s (fun e _ => evOps O C.fl al (s.put ao.dst e) k) = some r → ∀ K : Act → World → Prop, (∀ a w, wpList P ops.toArray Q l a w → K a w) → o.wp P a w K Q := fun h K hK => by
      rw [← hd] at h
      obtain ⟨e, f, h1, h2, h3, h4⟩ := op_all hO hb ok3 h
      have hp := h2.put o.dst
      have hen : (s.put o.dst e).n = e.n := rfl
      have hle' : e.n ≤ nf := by
        obtain ⟨s', g1, g2⟩ := evOps_heir hO.heir al _ (hp.hb hb) h1
        have := hn s' (g2.hb (hp.hb hb)) g1
        have := g2.1
        omega
      refine h4 s.fs θ σ a w R hdN (fun _ _ => rfl) (fun _ _ => rfl) ⟨fun _ _ => rfl, fun _ _ _ e => e⟩ (fun id q1 q2 => hf id q1 (by omega)) K Q fun θ' σ' a' w' q1 q2 => hK a' w' ?_
      rw [← fs_put] at q2
      exact evOps_sound hO hn hk l al _ a' w' ok4 (Good.step hx hf hle q1 h3 (hp.hb hb) q2) h1
    have skip : evOps O C.fl al (s.undef ao.dst) k = some r → wpList P ops.toArray Q l (a.put o.dst undef) w := fun h => by
      rw [← hd] at h
      refine evOps_sound hO hn hk l al _ _ w ok4 (Good.step (σ' := σ) (s := s) (s' := s.undef o.dst) hx hf hle (Th.ext_refl _ _ _) (Nat.le_refl _) hb ?_) h
      rw [undef_put, fs_put]
      exact ⟨R.m.same (by funext q; simp [FS.put, lget_nil, lget_cns]) (by funext q; simp [FS.put, hlook_nl, hlook_cns]) (Chg.refl _ _), R.t.step (Th.le_refl _) (fun _ _ => rfl) hdN (fun _ e => undef_rel e) (fun _ _ e => by cases e)⟩
    simp only [evOps] at h
    refine wpList_step fun K hK => ?_
    cases hg : ao.guard with
    | none =>
      rw [hg] at h ok2
      cases hg' : o.guard with
      | some p => rw [hg'] at ok2; obtain ⟨_, _⟩ := p; simp [okGuard] at ok2
      | none =>
        simp only [Region.wanted, hg', if_true]
        exact run h K hK
    | some p =>
      obtain ⟨t, w'⟩ := p
      rw [hg] at h ok2
      cases hg' : o.guard with
      | none => rw [hg'] at ok2; simp [okGuard] at ok2
      | some p =>
        obtain ⟨j, w2⟩ := p
        rw [hg'] at ok2
        simp only [Region.wanted, hg']
        simp only at h
        split at h
        · rename_i hv
          obtain ⟨e1, e2⟩ := guard_of ok2 R.t.size (R.t.tmp t _ hv)
          subst e1
          rw [e2]
          cases w' with
          | true => simp only [beq_self_eq_true, if_true]; exact run h K hK
          | false => simpa using hK _ _ (skip h)
        · rename_i hv
          obtain ⟨e1, e2⟩ := guard_of ok2 R.t.size (R.t.tmp t _ hv)
          subst e1
          rw [e2]
          cases w' with
          | true => simpa using hK _ _ (skip h)
          | false => simp only [beq_self_eq_true, if_true]; exact run h K hK
        · rename_i hv
          have e2 := guard_undef ok2 R.t.size (R.t.tmp t _ hv)
          rw [e2]
          simpa using hK _ _ (skip h)
        · cases h
  | [], _ :: _, _, _, _, ok, _, _ => by simp [okOps] at ok
  | _ :: _, [], _, _, _, ok, _, _ => by simp [okOps] at ok

end Go.Proofs.YtogkkamlmklpkaaDoor.Ab
