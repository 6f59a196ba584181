/- Regions that draw their order: from the evaluation to the facts. No condition: definitions and lemmas only. -/
import Derived.Test.YtogkkamlmklpkaaDoorA13
set_option linter.unusedVariables false
set_option linter.unusedSimpArgs false
namespace Go.Proofs.YtogkkamlmklpkaaDoor.Ab
open Go

def AOper.look (ao : AOper) : List Nat := ao.op.rd ++ (match ao.guard with | some (t, _) => [t] | none => [])
/-- Neither looks at what the other fills. -/
def tmpsApart (a b : AOper) : Bool :=
  (match b.dst with | some d => !(a.look.elem d) && (match a.dst with | some d' => !(Nat.beq d d') | none => true) | none => true) &&
  (match a.dst with | some d => !(b.look.elem d) | none => true)
def okEar (a : AOper) : List (Nat × AOper) → Bool
  | [] => true
  | p :: r => (a.bef.testBit p.1 || tmpsApart a p.2) && okEar a r
def okPairs : Nat → List AOper → List (Nat × AOper) → Bool
  | _, [], _ => true
  | i, a :: r, ear => okEar a ear && okPairs (i + 1) r ((i, a) :: ear)
def befAt (al : List AOper) (i : Nat) : Nat := match al[i]? with | some a => a.bef | none => 0
def befOf (al : List AOper) : List Edge → Nat
  | [] => 0
  | e :: r => bif Region.binds .any e then 2 ^ e.on ||| (befAt al e.on ||| befOf al r) else befOf al r
def okEdges (i : Nat) : List Edge → Bool
  | [] => true
  | e :: r => (!Region.binds .any e || Nat.blt e.on i) && okEdges i r
def okBefs (al : List AOper) : Nat → List Oper → List AOper → Bool
  | _, [], [] => true
  | i, o :: l, a :: r => Nat.beq a.bef (befOf al o.after.toList) && okEdges i o.after.toList && okBefs al (i + 1) l r
  | _, _, _ => false
def okDraw (ops : List Oper) (al : List AOper) : Bool := okBefs al 0 ops al && okPairs 0 al []

theorem okEar_of {a : AOper} : ∀ {l : List (Nat × AOper)}, okEar a l = true → ∀ p ∈ l, a.bef.testBit p.1 = true ∨ tmpsApart a p.2 = true
  | [], _, p, hp => by cases hp
  | q :: r, h, p, hp => by
    simp only [okEar, Bool.and_eq_true, Bool.or_eq_true] at h
    cases hp with
    | head => exact h.1
    | tail _ hm => exact okEar_of h.2 p hm
theorem okPairs_of : ∀ {l : List AOper} {i : Nat} {ear : List (Nat × AOper)}, okPairs i l ear = true →
    (∀ (m : Nat) (a : AOper), l[m]? = some a → ∀ p ∈ ear, a.bef.testBit p.1 = true ∨ tmpsApart a p.2 = true) ∧
    (∀ (m m' : Nat) (a b : AOper), m' < m → l[m]? = some a → l[m']? = some b → a.bef.testBit (i + m') = true ∨ tmpsApart a b = true)
  | [], i, ear, _ => ⟨fun m a h => by simp at h, fun m m' a b _ h => by simp at h⟩
  | c :: l, i, ear, h => by
    simp only [okPairs, Bool.and_eq_true] at h
    obtain ⟨h1, h2⟩ := okPairs_of h.2
    refine ⟨fun m a hm p hp => ?_, fun m m' a b hlt hm hm' => ?_⟩
    · cases m with
      | zero => simp at hm; subst hm; exact okEar_of h.1 p hp
      | succ m => simp at hm; exact h1 m a hm p (List.mem_cons_of_mem _ hp)
    · cases m with
      | zero => omega
      | succ m =>
        simp at hm
        cases m' with
        | zero => simp at hm'; subst hm'; simpa using h1 m a hm (i, c) (List.mem_cons_self ..)
        | succ m' =>
          simp at hm'
          have := h2 m m' a b (by omega) hm hm'
          rwa [show i + 1 + m' = i + (m' + 1) by omega] at this
theorem befOf_of {al : List AOper} {j : Nat} : ∀ {l : List Edge}, (befOf al l).testBit j = true → ∃ e ∈ l, Region.binds .any e = true ∧ (e.on = j ∨ (befAt al e.on).testBit j = true)
  | [], h => by simp [befOf] at h
  | e :: r, h => by
    simp only [befOf] at h
    cases hb : Region.binds .any e with
    | false =>
      rw [hb, cond_false] at h
      obtain ⟨e', h1, h2⟩ := befOf_of h
      exact ⟨e', List.mem_cons_of_mem _ h1, h2⟩
    | true =>
      rw [hb, cond_true, Nat.testBit_or, Nat.testBit_or, Bool.or_eq_true, Bool.or_eq_true] at h
      rcases h with h | h | h
      · rw [Nat.testBit_two_pow] at h
        exact ⟨e, List.mem_cons_self .., hb, .inl (by simpa using h)⟩
      · exact ⟨e, List.mem_cons_self .., hb, .inr h⟩
      · obtain ⟨e', h1, h2⟩ := befOf_of h
        exact ⟨e', List.mem_cons_of_mem _ h1, h2⟩
theorem okEdges_of {i : Nat} : ∀ {l : List Edge}, okEdges i l = true → ∀ e ∈ l, Region.binds .any e = true → e.on < i
  | [], _, e, h, _ => by cases h
  | c :: l, h, e, he, hb => by
    simp only [okEdges, Bool.and_eq_true, Bool.or_eq_true] at h
    cases he with
    | head =>
      rcases h.1 with q | q
      · rw [hb] at q; simp at q
      · rwa [Nat.blt_eq] at q
    | tail _ hm => exact okEdges_of h.2 e hm hb
theorem okBefs_of {al : List AOper} : ∀ {l : List Oper} {i : Nat} {r : List AOper}, okBefs al i l r = true → l.length = r.length ∧ ∀ (m : Nat) (o : Oper) (a : AOper), l[m]? = some o → r[m]? = some a →
    a.bef = befOf al o.after.toList ∧ okEdges (i + m) o.after.toList = true
  | [], i, [], _ => ⟨rfl, fun m o a h => by simp at h⟩
  | o :: l, i, a :: r, h => by
    simp only [okBefs, Bool.and_eq_true] at h
    obtain ⟨⟨h1, h2⟩, h3⟩ := h
    obtain ⟨g1, g2⟩ := okBefs_of h3
    refine ⟨by simp [g1], fun m o' a' ho ha => ?_⟩
    cases m with
    | zero => simp at ho ha; subst ho; subst ha; exact ⟨beq_true.1 h1, h2⟩
    | succ m =>
      simp at ho ha
      have := g2 m o' a' ho ha
      rwa [show i + 1 + m = i + (m + 1) by omega] at this
  | [], _, _ :: _, h => by simp [okBefs] at h
  | _ :: _, _, [], h => by simp [okBefs] at h

theorem elem_false {l : List Nat} {x : Nat} (h : (!(l.elem x)) = true) : x ∉ l := by
  intro hm
  have : l.elem x = true := List.elem_eq_true_of_mem hm
  rw [this] at h; cases h

theorem meets_false {f : Foot} {wl wh : List Nat} (h : (!(f.meets wl wh)) = true) : (∀ s, s ∈ wl → s ∉ f.locs) ∧ (∀ id, id ∈ wh → id ∉ f.hps) ∧ ∀ n hid, f.lim = some (n, hid) → ∀ id, id ∈ wh → id < n → id ∈ hid := by
  simp only [Foot.meets, Bool.not_eq_true', Bool.or_eq_false_iff, List.any_eq_false] at h
  obtain ⟨h1, h2⟩ := h
  refine ⟨fun s hs hm => h1 s hs (List.elem_eq_true_of_mem hm), fun id hi hm => h2 id hi (by rw [List.elem_eq_true_of_mem hm]; rfl), fun n hid hl id hi hlt => ?_⟩
  have := h2 id hi
  rw [hl] at this
  simp only [Bool.not_eq_true, Bool.or_eq_false_iff] at this
  have h3 := this.2
  have hb : Nat.blt id n = true := by rw [Nat.blt_eq]; exact hlt
  rw [hb] at h3
  have : hid.elem id = true := by simpa using h3
  simpa using this
theorem any_false {a b : List Nat} (h : (!(a.any fun x => b.elem x)) = true) : ∀ s, s ∈ b → s ∉ a := by
  simp only [Bool.not_eq_true', List.any_eq_false] at h
  exact fun s hs ha => h s ha (List.elem_eq_true_of_mem hs)

theorem apartAll_of {bef : Nat} {x : Rec} : ∀ {l : List Rec}, apartAll bef x l = true → ∀ y ∈ l, bef.testBit y.no = true ∨ x.apart y = true
  | [], _, y, hy => by cases hy
  | z :: l, h, y, hy => by
    simp only [apartAll, Bool.and_eq_true, Bool.or_eq_true] at h
    cases hy with
    | head => exact h.1
    | tail _ hm => exact apartAll_of h.2 y hm
theorem hidden_of {bef : Nat} : ∀ {l : List Rec} {y : Rec}, y ∈ l → bef.testBit y.no = false → ∀ id, id ∈ y.wh → id ∈ hidden bef l
  | [], y, hy, _, _, _ => by cases hy
  | z :: l, y, hy, hb, id, hi => by
    simp only [hidden]
    cases hy with
    | head => rw [hb, cond_false]; exact List.mem_append_left _ hi
    | tail _ hm =>
      have := hidden_of hm hb id hi
      cases bef.testBit z.no
      · exact List.mem_append_right _ this
      · exact this
theorem hidden_mem {bef : Nat} : ∀ {l : List Rec} {id : Nat}, id ∈ hidden bef l → ∃ y ∈ l, bef.testBit y.no = false ∧ id ∈ y.wh
  | [], id, h => by simp [hidden] at h
  | z :: l, id, h => by
    simp only [hidden] at h
    cases hb : bef.testBit z.no with
    | true =>
      rw [hb, cond_true] at h
      obtain ⟨y, h1, h2⟩ := hidden_mem h
      exact ⟨y, List.mem_cons_of_mem _ h1, h2⟩
    | false =>
      rw [hb, cond_false] at h
      rcases List.mem_append.1 h with h | h
      · exact ⟨z, List.mem_cons_self .., hb, h⟩
      · obtain ⟨y, h1, h2⟩ := hidden_mem h
        exact ⟨y, List.mem_cons_of_mem _ h1, h2⟩
theorem apartAll_no {bef no : Nat} {d : Option Nat} {n : Nat} {v : Option AV} : ∀ (l : List Rec), apartAll bef ⟨no, .no, d, ⟨v, [], [], n, none⟩⟩ l = true
  | [] => rfl
  | y :: l => by
    simp only [apartAll, apartAll_no l, Bool.and_true, Bool.or_eq_true]
    right
    have e1 : Foot.meets Foot.no y.wl y.wh = false := by
      simp [Foot.meets, Foot.no]
    have e2 : Foot.meets y.foot [] [] = false := by simp [Foot.meets]
    simp [Rec.apart, Rec.wl, Rec.wh, e1, e2]
    simp [Rec.wl, Rec.wh] at e1
    exact e1

/-- What one record of a region's run is. -/
structure RecOk (P : Program) (C : Cx) (ops : Array Oper) (Q : Exit → Act → World → Prop) (i : Nat) (s : AS) (ear : List Rec) (ao : AOper) (x : Rec) : Prop where
  no : x.no = i
  dst : x.dst = ao.dst
  all : x.eff.all = none
  num : s.n ≤ x.eff.n
  low : HB s.h s.n
  lim : ∀ n hid, x.foot.lim = some (n, hid) → n = s.n ∧ hid = hidden ao.bef ear
  apart : apartAll ao.bef x ear = true
  step : StepAt P C ops Q i x ao.look s.n s.fs

theorem evDraw_tr {P : Program} {C : Cx} {O : Orc} {r : Res} {ops : List Oper} {Q : Exit → Act → World → Prop} {k : AS → Option Res} (hO : OSound P C.ng O) :
    ∀ (al : List AOper) (l : List Oper) (j : Nat) (s : AS) (rs : List Rec), okOps P C.ng C.N ops l al = true → (∀ m, l[m]? = ops[j + m]?) → HB s.h s.n → evDraw O C.fl j al s rs k = some r →
      ∃ xs : List Rec, xs.length = l.length ∧ k (puts s xs) = some r ∧ Heir s.h s.n (puts s xs).h (puts s xs).n ∧
        ∀ (m : Nat) (x : Rec), xs[m]? = some x → ∃ ao, al[m]? = some ao ∧ RecOk P C ops.toArray Q (j + m) (puts s (xs.take m)) ((xs.take m).reverse ++ rs) ao x
  | [], [], j, s, rs, _, _, hb, h => ⟨[], rfl, h, Heir.refl _ _, fun m x hx => by simp at hx⟩
  | ao :: al, o :: l, j, s, rs, ok, hl, hb, h => by
    simp only [okOps, okOper, Bool.and_eq_true] at ok
    obtain ⟨⟨⟨ok1, ok2⟩, ok3⟩, ok4⟩ := ok
    obtain ⟨hd, hdN⟩ := dstEq_of ok1
    have hl' : ∀ m, l[m]? = ops[j + 1 + m]? := fun m => by
      have := hl (m + 1)
      simpa [show j + (m + 1) = j + 1 + m by omega] using this
    have ho : ops.toArray[j]? = some o := by
      have := hl 0
      simpa using this.symm
    -- one record, then the others
    have both : ∀ (x : Rec), RecOk P C ops.toArray Q j s rs ao x → HeirE s x.eff → evDraw O C.fl (j + 1) al (s.put x.dst x.eff) (x :: rs) k = some r →
        ∃ xs : List Rec, xs.length = (o :: l).length ∧ k (puts s xs) = some r ∧ Heir s.h s.n (puts s xs).h (puts s xs).n ∧
          ∀ (m : Nat) (x : Rec), xs[m]? = some x → ∃ ao', (ao :: al)[m]? = some ao' ∧ RecOk P C ops.toArray Q (j + m) (puts s (xs.take m)) ((xs.take m).reverse ++ rs) ao' x := by
      intro x hx he h
      have hp := he.put x.dst
      obtain ⟨xs, g1, g2, g3, g4⟩ := evDraw_tr hO al l (j + 1) (s.put x.dst x.eff) (x :: rs) ok4 hl' (hp.hb hb) h
      refine ⟨x :: xs, by simp [g1], g2, hp.trans g3, fun m y hy => ?_⟩
      cases m with
      | zero => simp at hy; subst hy; exact ⟨ao, rfl, hx⟩
      | succ m =>
        simp at hy
        obtain ⟨ao', q1, q2⟩ := g4 m y hy
        refine ⟨ao', by simpa using q1, ?_⟩
        have e : j + 1 + m = j + (m + 1) := by omega
        rw [e] at q2
        simpa [puts] using q2
    have run : (evOp O C.fl ao.dst ao.op { s with h := hhide (hidden ao.bef rs) s.h } fun e f =>
        match e.all with
        | some _ => none
        | none =>
          let x : Rec := ⟨j, f.hide s.n (hidden ao.bef rs), ao.dst, e⟩
          bif apartAll ao.bef x rs then evDraw O C.fl (j + 1) al (s.put ao.dst e) (x :: rs) k else none) = some r →
        (∀ (F : FS) (θ : Th) (σ : Nat → Option Nat) (a : Act) (w : World), Rep P C θ σ F a w → (∀ t, t ∈ ao.look → F.tmp t = s.fs.tmp t) → Region.wanted o (yielded ops.toArray a.tmps) = true) →
        ∃ xs : List Rec, xs.length = (o :: l).length ∧ k (puts s xs) = some r ∧ Heir s.h s.n (puts s xs).h (puts s xs).n ∧
          ∀ (m : Nat) (x : Rec), xs[m]? = some x → ∃ ao', (ao :: al)[m]? = some ao' ∧ RecOk P C ops.toArray Q (j + m) (puts s (xs.take m)) ((xs.take m).reverse ++ rs) ao' x := by
      intro h hw
      rw [← hd] at h
      obtain ⟨e, f, h1, h2, h3, h4⟩ := op_all (s := { s with h := hhide (hidden ao.bef rs) s.h }) hO (hb_hide hb) ok3 h
      split at h1
      · cases h1
      · rename_i ha
        simp only at h1
        cases hq : apartAll ao.bef ⟨j, f.hide s.n (hidden ao.bef rs), o.dst, e⟩ rs with
        | false => simp [hq] at h1
        | true =>
          rw [hq, cond_true] at h1
          have hlocs : (f.hide s.n (hidden ao.bef rs)).locs = f.locs := by unfold Foot.hide; split <;> rfl
          have hhps : (f.hide s.n (hidden ao.bef rs)).hps = f.hps := by unfold Foot.hide; split <;> rfl
          have hlim : f.lim.isSome = true → (f.hide s.n (hidden ao.bef rs)).lim = some (s.n, hidden ao.bef rs) := fun q => by
            unfold Foot.hide
            split
            · rename_i z; rw [z] at q; cases q
            · rfl
          refine both ⟨j, f.hide s.n (hidden ao.bef rs), o.dst, e⟩ ⟨rfl, hd, ha, h3, hb, fun n hid hl => ?_, hq, ?_⟩ (h2.wide ha) h1
          · simp only at hl
            cases q : f.lim with
            | none => rw [Foot.hide, q] at hl; simp only at hl; rw [q] at hl; cases hl
            | some p => rw [hlim (by rw [q]; rfl)] at hl; cases hl; exact ⟨rfl, rfl⟩
          · intro F θ σ a w R hag hf K hK
            obtain ⟨a1, a2, a3, a4⟩ := hag
            unfold wpOp
            rw [ho]
            simp only [hw F θ σ a w R a1, if_true]
            left
            refine h4 F θ σ a w R hdN (fun t ht => a1 t (List.mem_append_left _ ht)) (fun t ht => a2 t (by rw [hlocs]; exact ht)) ⟨fun id hi => ?_, fun hs id y hy => ?_⟩ hf K Q hK
            · have hi' : id ∈ (f.hide s.n (hidden ao.bef rs)).hps := by rw [hhps]; exact hi
              rw [a3 id hi']
              show hget s.h id = hget (hhide (hidden ao.bef rs) s.h) id
              rw [hget_hhide, if_neg]
              intro hm
              obtain ⟨y, y1, y2, y3⟩ := hidden_mem hm
              rcases apartAll_of hq y y1 with z | z
              · rw [y2] at z; cases z
              · simp only [Rec.apart, Bool.and_eq_true] at z
                exact (meets_false z.1.1.1).2.1 id y3 hi'
            · simp only [hget_hhide] at hy
              split at hy
              · cases hy
              · rename_i hn
                exact a4 s.n _ (hlim hs) id y hn hy
    have skip : evDraw O C.fl (j + 1) al (s.undef ao.dst) (⟨j, .no, ao.dst, ⟨some (.tup []), [], [], s.n, none⟩⟩ :: rs) k = some r →
        (∀ (F : FS) (θ : Th) (σ : Nat → Option Nat) (a : Act) (w : World), Rep P C θ σ F a w → (∀ t, t ∈ ao.look → F.tmp t = s.fs.tmp t) → Region.wanted o (yielded ops.toArray a.tmps) = false) →
        ∃ xs : List Rec, xs.length = (o :: l).length ∧ k (puts s xs) = some r ∧ Heir s.h s.n (puts s xs).h (puts s xs).n ∧
          ∀ (m : Nat) (x : Rec), xs[m]? = some x → ∃ ao', (ao :: al)[m]? = some ao' ∧ RecOk P C ops.toArray Q (j + m) (puts s (xs.take m)) ((xs.take m).reverse ++ rs) ao' x := by
      intro h hw
      refine both ⟨j, .no, ao.dst, ⟨some (.tup []), [], [], s.n, none⟩⟩ ⟨rfl, rfl, rfl, Nat.le_refl _, hb, (fun n hid hl => by cases hl), apartAll_no _, ?_⟩ heir0 h
      intro F θ σ a w R hag hf K hK
      unfold wpOp
      rw [ho]
      simp only [hw F θ σ a w R hag.1, Bool.false_eq_true, if_false]
      rw [← hd] at hK
      rw [hd] at hK ⊢
      refine hK θ σ _ _ (Th.ext_refl _ _ _) ⟨R.m.same (by funext q; simp [FS.put, lget_nil, lget_cns]) (by funext q; simp [FS.put, hlook_nl, hlook_cns]) (Chg.refl _ _), ?_⟩
      exact R.t.step (Th.le_refl _) (fun _ _ => rfl) (hd ▸ hdN) (fun _ e => undef_rel e) (fun _ _ e => by cases e)
    simp only [evDraw] at h
    cases hg : ao.guard with
    | none =>
      rw [hg] at h ok2
      cases hg' : o.guard with
      | some p => rw [hg'] at ok2; obtain ⟨_, _⟩ := p; simp [okGuard] at ok2
      | none => exact run h fun _ _ _ _ _ _ _ => by simp [Region.wanted, hg']
    | some p =>
      obtain ⟨t, w'⟩ := p
      rw [hg] at h ok2
      cases hg' : o.guard with
      | none => rw [hg'] at ok2; simp [okGuard] at ok2
      | some p =>
        obtain ⟨j', w2⟩ := p
        rw [hg'] at ok2
        simp only at h
        have key : ∀ (b : Bool), fget s.fr t = some (.b b) → ∀ (F : FS) (θ : Th) (σ : Nat → Option Nat) (a : Act) (w : World), Rep P C θ σ F a w → (∀ t, t ∈ ao.look → F.tmp t = s.fs.tmp t) →
            Region.wanted o (yielded ops.toArray a.tmps) = (b == w') := by
          intro b hv F θ σ a w R hag
          have hv' : F.tmp t = some (.b b) := by
            rw [hag t (List.mem_append_right _ (by rw [hg]; simp))]; exact hv
          obtain ⟨e1, e2⟩ := guard_of ok2 R.t.size (R.t.tmp t _ hv')
          subst e1
          simp only [Region.wanted, hg', e2]
          rfl
        split at h
        · rename_i hv
          cases w' with
          | true => exact run h fun F θ σ a w R hag => key true hv F θ σ a w R hag
          | false => exact skip h fun F θ σ a w R hag => key true hv F θ σ a w R hag
        · rename_i hv
          cases w' with
          | true => exact skip h fun F θ σ a w R hag => key false hv F θ σ a w R hag
          | false => exact run h fun F θ σ a w R hag => key false hv F θ σ a w R hag
        · rename_i hv
          refine skip h fun F θ σ a w R hag => ?_
          have hv' : F.tmp t = some (.tup []) := by
            rw [hag t (List.mem_append_right _ (by rw [hg]; simp))]; exact hv
          have e2 := guard_undef ok2 R.t.size (R.t.tmp t _ hv')
          simp only [Region.wanted, hg', e2]
          rfl
        · cases h
  | [], _ :: _, _, _, _, ok, _, _, _ => by simp [okOps] at ok
  | _ :: _, [], _, _, _, ok, _, _, _ => by simp [okOps] at ok

def lkOf (al : List AOper) (i : Nat) : List Nat := match al[i]? with | some a => a.look | none => []
def bfOf (al : List AOper) (i j : Nat) : Bool := (befAt al i).testBit j

theorem okOps_len {P : Program} {ng N : Nat} {ops : List Oper} : ∀ {l : List Oper} {al : List AOper}, okOps P ng N ops l al = true → l.length = al.length
  | [], [], _ => rfl
  | o :: l, a :: al, h => by
    simp only [okOps, Bool.and_eq_true] at h
    simp [okOps_len h.2]
  | [], _ :: _, h => by simp [okOps] at h
  | _ :: _, [], h => by simp [okOps] at h

theorem drawn_of {P : Program} {C : Cx} {ops : List Oper} {al : List AOper} {Q : Exit → Act → World → Prop} {s : AS} {xs : List Rec} (hlen : xs.length = ops.length) (ok : okDraw ops al = true)
    (h : ∀ (m : Nat) (x : Rec), xs[m]? = some x → ∃ ao, al[m]? = some ao ∧ RecOk P C ops.toArray Q m (puts s (xs.take m)) (xs.take m).reverse ao x) :
    Drawn P C ops.toArray Q s xs (lkOf al) (bfOf al) := by
  simp only [okDraw, Bool.and_eq_true] at ok
  obtain ⟨o1, o2⟩ := ok
  obtain ⟨b0, b1⟩ := okBefs_of o1
  obtain ⟨_, p2⟩ := okPairs_of o2
  refine ⟨by simpa using hlen, fun i x hx => ?_, fun i x hx => ?_, fun i x hx => ?_, fun i x hx => ?_, fun i x n hid hx hl => ?_, fun i j xi xj hji hxi hxj => ?_, fun i j hb => ?_, fun i o ho e he hb => ?_⟩
  · obtain ⟨ao, _, q⟩ := h i x hx; exact q.all
  · obtain ⟨ao, _, q⟩ := h i x hx; exact q.num
  · obtain ⟨ao, ha, q⟩ := h i x hx
    have : lkOf al i = ao.look := by simp [lkOf, ha]
    rw [this]; exact q.step
  · obtain ⟨ao, _, q⟩ := h i x hx; exact q.low
  · obtain ⟨ao, _, q⟩ := h i x hx; exact (q.lim n hid hl).1
  · obtain ⟨ai, hai, qi⟩ := h i xi hxi
    obtain ⟨aj, haj, qj⟩ := h j xj hxj
    have ebi : bfOf al i j = ai.bef.testBit j := by simp [bfOf, befAt, hai]
    rw [ebi]
    cases hb : ai.bef.testBit j with
    | true => exact .inl rfl
    | false =>
      right
      have e1 : lkOf al i = ai.look := by simp [lkOf, hai]
      have e2 : lkOf al j = aj.look := by simp [lkOf, haj]
      rw [e1, e2]
      have hmem : xj ∈ (xs.take i).reverse := by
        rw [List.mem_reverse]
        refine List.mem_of_getElem? (i := j) ?_
        rw [List.getElem?_take, if_pos hji]; exact hxj
      have hno := qj.no
      have hap : xi.apart xj = true := by
        rcases apartAll_of qi.apart xj hmem with z | z
        · rw [hno, hb] at z; cases z
        · exact z
      have htm : tmpsApart ai aj = true := by
        rcases p2 i j ai aj hji hai haj with z | z
        · rw [Nat.zero_add, hb] at z; cases z
        · exact z
      simp only [Rec.apart, Bool.and_eq_true] at hap
      obtain ⟨⟨⟨c1, c2⟩, c3⟩, c4⟩ := hap
      have m1 := meets_false c1
      have m2 := meets_false c2
      simp only [tmpsApart, Bool.and_eq_true] at htm
      obtain ⟨t1, t2⟩ := htm
      refine ⟨fun d hd => ?_, fun d hd => ?_, fun q hq => ⟨m1.1 q hq, any_false c3 q hq⟩, m2.1, fun q hq => ⟨m1.2.1 q hq, any_false c4 q hq⟩, m2.2.1, fun n hid hl id hid' => ?_, m2.2.2⟩
      · rw [qj.dst] at hd
        rw [hd] at t1
        simp only [Bool.and_eq_true] at t1
        refine ⟨elem_false t1.1, fun e => ?_⟩
        rw [qi.dst] at e
        have := t1.2
        rw [e] at this
        simp [beq_true.2] at this
      · rw [qi.dst] at hd
        rw [hd] at t2
        exact elem_false t2
      · rw [(qi.lim n hid hl).2]
        exact hidden_of hmem (by rw [hno]; exact hb) id hid'
  · unfold bfOf befAt at hb
    split at hb
    · rename_i a ha
      have hlt : i < ops.length := by rw [b0]; exact (List.getElem?_eq_some_iff.1 ha).1
      have ho : ops[i]? = some ops[i] := List.getElem?_eq_getElem hlt
      obtain ⟨q1, _⟩ := b1 i _ a ho ha
      rw [q1] at hb
      obtain ⟨e, h1, h2, h3⟩ := befOf_of hb
      exact ⟨ops[i], by simp, e, Array.mem_toList_iff.1 h1, h2, h3⟩
    · simp at hb
  · have ho' : ops[i]? = some o := by simpa using ho
    have hlt : i < al.length := by rw [← b0]; exact (List.getElem?_eq_some_iff.1 ho').1
    obtain ⟨_, q⟩ := b1 i o _ ho' (List.getElem?_eq_getElem hlt)
    rw [Nat.zero_add] at q
    exact okEdges_of q e (Array.mem_toList_iff.2 he) hb

theorem upds_none {β : Type} {upd : Nat → Option β} {x0 : β} : ∀ (n : Nat), upds upd (fun _ => false) x0 n = x0
  | 0 => rfl
  | n + 1 => by simp only [upds, Bool.false_eq_true, if_false]; exact upds_none n
theorem unl_le {listed : Array Bool} : ∀ m, unl listed m ≤ m
  | 0 => Nat.le_refl _
  | m + 1 => by
    have := unl_le (listed := listed) m
    simp only [unl]; split <;> omega

theorem evDraw_sound {P : Program} {C : Cx} {O : Orc} {θ0 : Th} {n0 nf : Nat} {r : Res} {id : Nat} {ops : Array Oper} {al : List AOper} {Q : Exit → Act → World → Prop} {k : AS → Option Res} {s : AS} {a : Act} {w : World}
    (hP : P.follows .mixedOrders = true) (hO : OSound P C.ng O) (hn : ∀ s', HB s'.h s'.n → k s' = some r → s'.n ≤ nf) (hk : ∀ s' a' w', k s' = some r → Good P C θ0 n0 nf s' a' w' → Q .normal a' w')
    (ok : okOps P C.ng C.N ops.toList ops.toList al = true) (ok2 : okDraw ops.toList al = true) (g : Good P C θ0 n0 nf s a w) (h : evDraw O C.fl 0 al s [] k = some r) :
    (Code.region id ops true).wp P Q a w := by
  obtain ⟨⟨θ, σ, R, hx, hf⟩, hb, hle⟩ := g
  obtain ⟨xs, h1, h2, h3, h4⟩ := evDraw_tr (Q := Q) hO al ops.toList 0 s [] ok (fun m => by simp) hb h
  have D := drawn_of (P := P) (C := C) (ops := ops.toList) (al := al) (Q := Q) (s := s) (xs := xs) h1 ok2 (fun m x hx => by simpa using h4 m x hx)
  have hfull : puts s (xs.take xs.length) = puts s xs := by rw [List.take_length]
  have hnlast : nn s xs xs.length = (puts s xs).n := by unfold nn; rw [hfull]
  have eo : ops.toList.toArray = ops := by simp
  rw [eo] at D
  have hL : (fun j => (Array.replicate ops.size false).getD j false) = (fun _ => false) := by
    funext j
    simp only [Array.getD_eq_getD_getElem?, Array.getElem?_replicate]
    split <;> rfl
  refine wp_region_any hP (D.sound (θ0 := θ) (nf := nf) hf (by rw [hnlast]; exact hn _ (h3.hb hb) h2) (fun θ' σ' a' w' R' ht => ?_) ops.size _ a _ θ σ (by simp) ?_ (unl_le _) ?_ ?_)
  · refine hk _ a' w' h2 ⟨⟨θ', σ', R', ⟨fun id => ?_, Th.fle_trans hx.fz ht.2⟩, fun id g1 g2 => ?_⟩, h3.hb hb, Nat.le_trans hle h3.1⟩
    · rcases ht.1 id with q | ⟨q, j, j1, _, j2, j3⟩
      · rcases hx.pl id with z | ⟨z1, z2, z3⟩
        · exact .inl (q.trans z)
        · exact .inr ⟨z1, z2, Nat.lt_of_lt_of_le z3 h3.1⟩
      · have a1 := D.nn_le (i := 0) (j := j) (by omega) (by omega)
        have a2 := D.nn_le (i := j + 1) (j := xs.length) (by omega) (Nat.le_refl _)
        have a3 : nn s xs 0 = s.n := rfl
        refine .inr ⟨?_, by omega, by omega⟩
        rcases hx.pl id with z | ⟨z1, _⟩
        · rw [← z]; exact q
        · exact z1
    · rcases ht.1 id with q | ⟨q, j, j1, _, j2, j3⟩
      · rw [q]; exact hf id (by have := h3.1; omega) g2
      · have a2 := D.nn_le (i := j + 1) (j := xs.length) (by omega) (Nat.le_refl _)
        omega
  · rw [hL]; intro i o _ q; cases q
  · rw [hL]
    have : FL s.fs xs (fun _ => false) xs.length = s.fs := by
      unfold FL
      congr 1 <;> funext t <;> exact upds_none _
    rw [this]
    exact ⟨R.m.same rfl rfl (Chg.drew _ _), R.t⟩
  · exact ⟨fun id => .inl rfl, Th.fle_refl _⟩

end Go.Proofs.YtogkkamlmklpkaaDoor.Ab
