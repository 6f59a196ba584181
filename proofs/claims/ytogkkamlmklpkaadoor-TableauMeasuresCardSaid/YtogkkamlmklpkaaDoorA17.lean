/- Functions that are called with contents in place of blocks: cuts that number the blocks anew, calls that find a small memory, and what their word is worth. No condition: definitions and lemmas only. -/
import Derived.Test.YtogkkamlmklpkaaDoorA16
set_option linter.unusedVariables false
set_option linter.unusedSimpArgs false
namespace Go.Proofs.YtogkkamlmklpkaaDoor.Ab
open Go

/-! ### Where a region ends -/
section
variable {O : Orc} {fl : Nat} {r : Res}
theorem op_at {d : Option Nat} {op : AOp} {s : AS} {k : Eff → Foot → Option Res} (hO : OHeir O) (hb : HB s.h s.n) (h : evOp O fl d op s k = some r) : ∃ e f, stepOp O fl d op s = some (e, f) ∧ HeirE s e ∧ k e f = some r := by
  have h := evOp_heir hO hb h
  rw [evOp_step] at h
  split at h
  · rename_i e f hs
    exact ⟨e, f, hs, (kg_of h).1, (kg_of h).2⟩
  · cases h
theorem op_to {d : Option Nat} {op : AOp} {s : AS} {e : Eff} {f : Foot} (k : Eff → Foot → Option Res) (h : stepOp O fl d op s = some (e, f)) : evOp O fl d op s k = k e f := by
  rw [evOp_step, h]

theorem evOps_end (hO : OHeir O) {k : AS → Option Res} : ∀ (l : List AOper) (s : AS), HB s.h s.n → evOps O fl l s k = some r →
    ∃ se, k se = some r ∧ Heir s.h s.n se.h se.n ∧ ∀ (k' : AS → Option Res) (r' : Res), k' se = some r' → evOps O fl l s k' = some r'
  | [], s, _, h => ⟨s, h, Heir.refl _ _, fun k' r' q => q⟩
  | o :: l, s, hb, h => by
    have run : evOp O fl o.dst o.op s (fun e _ => evOps O fl l (s.put o.dst e) k) = some r →
        ∃ se, k se = some r ∧ Heir s.h s.n se.h se.n ∧ ∀ (k' : AS → Option Res) (r' : Res), k' se = some r' → evOp O fl o.dst o.op s (fun e _ => evOps O fl l (s.put o.dst e) k') = some r' := fun h => by
      obtain ⟨e, f, h1, h2, h3⟩ := op_at hO hb h
      have hp := h2.put o.dst
      obtain ⟨se, g1, g2, g3⟩ := evOps_end hO l _ (hp.hb hb) h3
      exact ⟨se, g1, hp.trans g2, fun k' r' q => by rw [op_to _ h1]; exact g3 k' r' q⟩
    have skip : evOps O fl l (s.undef o.dst) k = some r → ∃ se, k se = some r ∧ Heir s.h s.n se.h se.n ∧ ∀ (k' : AS → Option Res) (r' : Res), k' se = some r' → evOps O fl l (s.undef o.dst) k' = some r' :=
      fun h => evOps_end hO l (s.undef o.dst) hb h
    simp only [evOps] at h ⊢
    split at h
    · exact run h
    · rename_i t w hgd
      split at h
      · rename_i hv
        cases w
        · exact skip h
        · exact run h
      · rename_i hv
        cases w
        · exact run h
        · exact skip h
      · exact skip h
      · cases h

theorem evDraw_end (hO : OHeir O) {k : AS → Option Res} : ∀ (l : List AOper) (j : Nat) (s : AS) (rs : List Rec), HB s.h s.n → evDraw O fl j l s rs k = some r →
    ∃ se, k se = some r ∧ Heir s.h s.n se.h se.n ∧ ∀ (k' : AS → Option Res) (r' : Res), k' se = some r' → evDraw O fl j l s rs k' = some r'
  | [], _, s, _, _, h => ⟨s, h, Heir.refl _ _, fun k' r' q => q⟩
  | o :: l, j, s, rs, hb, h => by
    have run : (evOp O fl o.dst o.op { s with h := hhide (hidden o.bef rs) s.h } fun e f =>
        match e.all with
        | some _ => none
        | none =>
          let x : Rec := ⟨j, f.hide s.n (hidden o.bef rs), o.dst, e⟩
          bif apartAll o.bef x rs then evDraw O fl (j + 1) l (s.put o.dst e) (x :: rs) k else none) = some r →
        ∃ se, k se = some r ∧ Heir s.h s.n se.h se.n ∧ ∀ (k' : AS → Option Res) (r' : Res), k' se = some r' → (evOp O fl o.dst o.op { s with h := hhide (hidden o.bef rs) s.h } fun e f =>
        match e.all with
        | some _ => none
        | none =>
          let x : Rec := ⟨j, f.hide s.n (hidden o.bef rs), o.dst, e⟩
          bif apartAll o.bef x rs then evDraw O fl (j + 1) l (s.put o.dst e) (x :: rs) k' else none) = some r' := fun h => by
      obtain ⟨e, f, h1, h2, h3⟩ := op_at (s := { s with h := hhide (hidden o.bef rs) s.h }) hO (hb_hide hb) h
      split at h3
      · cases h3
      · rename_i ha
        have h2 := (h2.wide ha).put o.dst
        simp only at h3
        cases hq : apartAll o.bef ⟨j, f.hide s.n (hidden o.bef rs), o.dst, e⟩ rs with
        | false => simp [hq] at h3
        | true =>
          rw [hq, cond_true] at h3
          obtain ⟨se, g1, g2, g3⟩ := evDraw_end hO l _ _ _ (h2.hb hb) h3
          refine ⟨se, g1, h2.trans g2, fun k' r' q => ?_⟩
          rw [op_to _ h1]
          simp only [ha, hq, cond_true]
          exact g3 k' r' q
    have skip : ∀ {x : Rec}, evDraw O fl (j + 1) l (s.undef o.dst) (x :: rs) k = some r →
        ∃ se, k se = some r ∧ Heir s.h s.n se.h se.n ∧ ∀ (k' : AS → Option Res) (r' : Res), k' se = some r' → evDraw O fl (j + 1) l (s.undef o.dst) (x :: rs) k' = some r' := fun h => evDraw_end hO l (j + 1) (s.undef o.dst) _ hb h
    simp only [evDraw] at h ⊢
    split at h
    · exact run h
    · rename_i t w hgd
      split at h
      · cases w
        · exact skip h
        · exact run h
      · cases w
        · exact run h
        · exact skip h
      · exact skip h
      · cases h
end

/-! ### Numbers anew -/
theorem posOf_get {id : Nat} : ∀ {l : List Nat} {j : Nat}, posOf id l = some j → l[j]? = some id
  | [], _, h => by simp [posOf] at h
  | x :: l, j, h => by
    simp only [posOf] at h
    cases q : Nat.beq x id with
    | true => rw [q] at h; simp at h; subst h; simp [beq_true.1 q]
    | false =>
      rw [q] at h
      simp only [cond_false] at h
      split at h
      · rename_i i hi
        simp at h; subst h
        simpa using posOf_get hi
      · cases h
mutual
theorem ren_rel {θ θ' : Th} {base nb : Nat} {l : List Nat} (h : ∀ id id', newId base nb l id = some id' → θ' id' = θ id) (hf : Th.fle θ θ') : ∀ (a a' : AV) (v : Value), AV.ren base nb l a = some a' → VRel θ a v → VRel θ' a' v
  | .b _, _, _, e, r => by simp only [AV.ren, Option.some.injEq] at e; subst e; exact r
  | .i _ _, _, _, e, r => by simp only [AV.ren, Option.some.injEq] at e; subst e; exact r
  | .f _ _, _, _, e, r => by simp only [AV.ren, Option.some.injEq] at e; subst e; exact r
  | .c _ _ _, _, _, e, r => by simp only [AV.ren, Option.some.injEq] at e; subst e; exact r
  | .s _, _, _, e, r => by simp only [AV.ren, Option.some.injEq] at e; subst e; exact r
  | .p none, _, _, e, r => by simp only [AV.ren, Option.some.injEq] at e; subst e; exact r
  | .p (some (id, off)), a', v, e, r => by
    simp only [AV.ren] at e
    split at e
    · rename_i id' hid
      simp only [Option.some.injEq] at e; subst e
      simp only [VRel] at r ⊢
      obtain ⟨b, o, C, e1, e2⟩ := r
      exact ⟨b, o, C, by rw [h _ _ hid]; exact e1, e2⟩
    · cases e
  | .lp _ _, _, _, e, r => by simp [VRel] at r
  | .sl none _ _, _, _, e, r => by simp only [AV.ren, Option.some.injEq] at e; subst e; exact r
  | .sl (some (id, off)) len cap, a', v, e, r => by
    simp only [AV.ren] at e
    split at e
    · rename_i id' hid
      simp only [Option.some.injEq] at e; subst e
      simp only [VRel] at r ⊢
      obtain ⟨b, o, C, cap', e1, e2⟩ := r
      exact ⟨b, o, C, cap', by rw [h _ _ hid]; exact e1, e2⟩
    · cases e
  | .fn g x y, a', v, e, r => by
    simp only [AV.ren] at e
    split at e
    · rename_i x' hx
      split at e
      · rename_i y' hy
        simp only [Option.some.injEq] at e; subst e
        simp only [VRel] at r ⊢
        obtain ⟨p, q, rfl, h1, h2⟩ := r
        exact ⟨p, q, rfl, rens_rel h hf x x' _ hx h1, rens_rel h hf y y' _ hy h2⟩
      · cases e
    · cases e
  | .nilfn, _, _, e, r => by simp only [AV.ren, Option.some.injEq] at e; subst e; exact r
  | .nilif, _, _, e, r => by simp only [AV.ren, Option.some.injEq] at e; subst e; exact r
  | .agg cs, a', v, e, r => by
    simp only [AV.ren] at e
    split at e
    · rename_i cs' hc
      simp only [Option.some.injEq] at e; subst e
      simp only [VRel] at r ⊢
      obtain ⟨x, rfl, h1⟩ := r
      exact ⟨x, rfl, rens_rel h hf cs cs' _ hc h1⟩
    · cases e
  | .tup cs, a', v, e, r => by
    simp only [AV.ren] at e
    split at e
    · rename_i cs' hc
      simp only [Option.some.injEq] at e; subst e
      simp only [VRel] at r ⊢
      obtain ⟨x, rfl, h1⟩ := r
      exact ⟨x, rfl, rens_rel h hf cs cs' _ hc h1⟩
    · cases e
  | .vs len cap cs, a', v, e, r => by
    simp only [AV.ren] at e
    split at e
    · rename_i cs' hc
      simp only [Option.some.injEq] at e; subst e
      simp only [VRel] at r ⊢
      rcases r with ⟨b, o, cap', us, rfl, h1, h2, h3, hr, h4⟩ | ⟨r1, r2, r3, r4⟩
      · exact .inl ⟨b, o, cap', us, rfl, h1, h2, h3.mono hf, ren_nors cs cs' hc hr, rens_rel h hf cs cs' _ hc h4⟩
      · subst r3
        simp only [AV.rens, Option.some.injEq] at hc
        exact .inr ⟨r1, r2, hc.symm, r4⟩
    · cases e
  | .vp cs, a', v, e, r => by
    simp only [AV.ren] at e
    split at e
    · rename_i cs' hc
      simp only [Option.some.injEq] at e; subst e
      simp only [VRel] at r ⊢
      obtain ⟨b, o, us, rfl, h3, hr, h4⟩ := r
      exact ⟨b, o, us, rfl, h3.mono hf, ren_nors cs cs' hc hr, rens_rel h hf cs cs' _ hc h4⟩
    · cases e
theorem rens_rel {θ θ' : Th} {base nb : Nat} {l : List Nat} (h : ∀ id id', newId base nb l id = some id' → θ' id' = θ id) (hf : Th.fle θ θ') : ∀ (a a' : List AV) (v : List Value), AV.rens base nb l a = some a' → VRels θ a v → VRels θ' a' v
  | [], _, _, e, r => by simp only [AV.rens, Option.some.injEq] at e; subst e; exact r
  | x :: xs, a', v, e, r => by
    simp only [AV.rens] at e
    split at e
    · rename_i x' hx
      split at e
      · rename_i xs' hxs
        simp only [Option.some.injEq] at e; subst e
        simp only [VRels] at r ⊢
        obtain ⟨u, us, rfl, h1, h2⟩ := r
        exact ⟨u, us, rfl, ren_rel h hf x x' u hx h1, rens_rel h hf xs xs' us hxs h2⟩
      · cases e
    · cases e
theorem ren_nor {base nb : Nat} {l : List Nat} : ∀ (a a' : AV), AV.ren base nb l a = some a' → a.nor = true → a'.nor = true
  | .b _, _, e, r => by simp only [AV.ren, Option.some.injEq] at e; subst e; exact r
  | .i _ _, _, e, r => by simp only [AV.ren, Option.some.injEq] at e; subst e; exact r
  | .f _ _, _, e, r => by simp only [AV.ren, Option.some.injEq] at e; subst e; exact r
  | .c _ _ _, _, e, r => by simp only [AV.ren, Option.some.injEq] at e; subst e; exact r
  | .s _, _, e, r => by simp only [AV.ren, Option.some.injEq] at e; subst e; exact r
  | .p none, _, e, r => by simp only [AV.ren, Option.some.injEq] at e; subst e; exact r
  | .p (some (_, _)), _, e, r => by simp [AV.nor] at r
  | .lp _ _, _, e, r => by simp [AV.nor] at r
  | .sl none _ _, _, e, r => by simp only [AV.ren, Option.some.injEq] at e; subst e; exact r
  | .sl (some (_, _)) _ _, _, e, r => by simp [AV.nor] at r
  | .fn g x y, a', e, r => by
    simp only [AV.ren] at e
    split at e
    · rename_i x' hx
      split at e
      · rename_i y' hy
        simp only [Option.some.injEq] at e; subst e
        simp only [AV.nor, Bool.and_eq_true] at r ⊢
        exact ⟨ren_nors x x' hx r.1, ren_nors y y' hy r.2⟩
      · cases e
    · cases e
  | .nilfn, _, e, r => by simp only [AV.ren, Option.some.injEq] at e; subst e; exact r
  | .nilif, _, e, r => by simp only [AV.ren, Option.some.injEq] at e; subst e; exact r
  | .agg cs, a', e, r => by
    simp only [AV.ren] at e
    split at e
    · rename_i cs' hc
      simp only [Option.some.injEq] at e; subst e
      simp only [AV.nor] at r ⊢
      exact ren_nors cs cs' hc r
    · cases e
  | .tup cs, a', e, r => by
    simp only [AV.ren] at e
    split at e
    · rename_i cs' hc
      simp only [Option.some.injEq] at e; subst e
      simp only [AV.nor] at r ⊢
      exact ren_nors cs cs' hc r
    · cases e
  | .vs len cap cs, a', e, r => by
    simp only [AV.ren] at e
    split at e
    · rename_i cs' hc
      simp only [Option.some.injEq] at e; subst e
      simp only [AV.nor] at r ⊢
      exact ren_nors cs cs' hc r
    · cases e
  | .vp cs, a', e, r => by
    simp only [AV.ren] at e
    split at e
    · rename_i cs' hc
      simp only [Option.some.injEq] at e; subst e
      simp only [AV.nor] at r ⊢
      exact ren_nors cs cs' hc r
    · cases e
theorem ren_nors {base nb : Nat} {l : List Nat} : ∀ (a a' : List AV), AV.rens base nb l a = some a' → AV.nors a = true → AV.nors a' = true
  | [], _, e, r => by simp only [AV.rens, Option.some.injEq] at e; subst e; exact r
  | x :: xs, a', e, r => by
    simp only [AV.rens] at e
    split at e
    · rename_i x' hx
      split at e
      · rename_i xs' hxs
        simp only [Option.some.injEq] at e; subst e
        simp only [AV.nors, Bool.and_eq_true] at r ⊢
        exact ⟨ren_nor x x' hx r.1, ren_nors xs xs' hxs r.2⟩
      · cases e
    · cases e
end
theorem rens_len {base nb : Nat} {l : List Nat} : ∀ {a a' : List AV}, AV.rens base nb l a = some a' → a'.length = a.length
  | [], _, e => by simp only [AV.rens, Option.some.injEq] at e; subst e; rfl
  | x :: xs, a', e => by
    simp only [AV.rens] at e
    split at e
    · split at e
      · rename_i xs' hxs
        simp only [Option.some.injEq] at e; subst e
        simp [rens_len hxs]
      · cases e
    · cases e
theorem ren_lp {base nb : Nat} {l : List Nat} {a : AV} {s off : Nat} (e : AV.ren base nb l a = some (.lp s off)) : a = .lp s off := by
  cases a with
  | p q => cases q with
    | none => simp [AV.ren] at e
    | some q => obtain ⟨x, y⟩ := q; simp only [AV.ren] at e; split at e <;> simp at e
  | sl q _ _ => cases q with
    | none => simp [AV.ren] at e
    | some q => obtain ⟨x, y⟩ := q; simp only [AV.ren] at e; split at e <;> simp at e
  | fn g x y =>
    simp only [AV.ren] at e
    split at e
    · split at e <;> simp at e
    · cases e
  | agg _ => simp only [AV.ren] at e; split at e <;> simp at e
  | tup _ => simp only [AV.ren] at e; split at e <;> simp at e
  | vs _ _ _ => simp only [AV.ren] at e; split at e <;> simp at e
  | vp _ => simp only [AV.ren] at e; split at e <;> simp at e
  | lp _ _ => simpa [AV.ren] using e
  | _ => simp [AV.ren] at e
theorem trel_ren {θ θ' : Th} {σ : Nat → Option Nat} {base nb : Nat} {l : List Nat} (h : ∀ id id', newId base nb l id = some id' → θ' id' = θ id) (hf : Th.fle θ θ') {a a' : AV} {v : Value} (e : AV.ren base nb l a = some a') (r : TRel θ σ a v) : TRel θ' σ a' v := by
  cases hl : a.islp with
  | true =>
    cases a <;> simp [AV.islp] at hl
    simp only [AV.ren, Option.some.injEq] at e; subst e
    exact r
  | false => exact TRel.of (ren_rel h hf a a' v e (r.val hl))

theorem frens_get {base nb : Nat} {l : List Nat} {t : Nat} {v' : AV} : ∀ {fr fr' : List (Nat × AV)}, frens base nb l fr = some fr' → fget fr' t = some v' → ∃ v, fget fr t = some v ∧ AV.ren base nb l v = some v'
  | [], _, e, h => by simp only [frens, Option.some.injEq] at e; subst e; simp [fget_nil] at h
  | (k, x) :: fr, fr', e, h => by
    simp only [frens] at e
    split at e
    · rename_i x' hx
      split at e
      · rename_i r' hr
        simp only [Option.some.injEq] at e; subst e
        rw [fget_cons] at h ⊢
        by_cases q : k = t
        · rw [if_pos q] at h ⊢; cases h; exact ⟨x, rfl, hx⟩
        · rw [if_neg q] at h ⊢; exact frens_get hr h
      · cases e
    · cases e
theorem lrens_get {base nb : Nat} {l : List Nat} {t : Nat} {v' : List AV} : ∀ {fr fr' : List (Nat × List AV)}, lrens base nb l fr = some fr' → lget fr' t = some v' → ∃ v, lget fr t = some v ∧ AV.rens base nb l v = some v'
  | [], _, e, h => by simp only [lrens, Option.some.injEq] at e; subst e; simp [lget_nil] at h
  | (k, x) :: fr, fr', e, h => by
    simp only [lrens] at e
    split at e
    · rename_i x' hx
      split at e
      · rename_i r' hr
        simp only [Option.some.injEq] at e; subst e
        rw [lget_cons] at h ⊢
        by_cases q : k = t
        · rw [if_pos q] at h ⊢; cases h; exact ⟨x, rfl, hx⟩
        · rw [if_neg q] at h ⊢; exact lrens_get hr h
      · cases e
    · cases e
theorem lrens_some {base nb : Nat} {l : List Nat} {t : Nat} : ∀ {fr fr' : List (Nat × List AV)}, lrens base nb l fr = some fr' → (lget fr t).isSome = true → (lget fr' t).isSome = true
  | [], _, e, h => by simp [lget_nil] at h
  | (k, x) :: fr, fr', e, h => by
    simp only [lrens] at e
    split at e
    · rename_i x' hx
      split at e
      · rename_i r' hr
        simp only [Option.some.injEq] at e; subst e
        rw [lget_cons] at h ⊢
        by_cases q : k = t
        · rw [if_pos q]; rfl
        · rw [if_neg q] at h ⊢; exact lrens_some hr h
      · cases e
    · cases e
/-- A block that is numbered anew. -/
theorem hrens_get {base nb : Nat} {l : List Nat} {h : AHeap} {id' : Nat} {x' : ABlk} : ∀ {r : List Nat} {j : Nat} {h' : AHeap}, hrens base nb l h j r = some h' → hget h' id' = some x' →
    j ≤ id' ∧ id' < j + r.length ∧ ∃ id x cs, newId base nb l id = some id' ∧ base ≤ id ∧ hget h id = some x ∧ AV.rens base nb l x.cells = some cs ∧ x' = ⟨x.own, x.opn, x.ty, x.esz, cs⟩
  | [], j, _, e, g => by simp only [hrens, Option.some.injEq] at e; subst e; simp [hget_nil] at g
  | id :: r, j, h', e, g => by
    simp only [hrens] at e
    split at e
    · cases e
    · rename_i j' hj
      cases q : (Nat.beq j' j && Nat.ble base id) with
      | false => rw [q] at e; cases e
      | true =>
        rw [q, cond_true] at e
        simp only [Bool.and_eq_true] at q
        have q1 := beq_true.1 q.1; subst q1
        have q2 := Nat.le_of_ble_eq_true q.2
        split at e
        · obtain ⟨a1, a2, a3⟩ := hrens_get e g
          exact ⟨by omega, by simp only [List.length_cons]; omega, a3⟩
        · rename_i x hx
          split at e
          · rename_i cs hcs
            split at e
            · rename_i h2 hh2
              simp only [Option.some.injEq] at e; subst e
              rw [hget_cons] at g
              by_cases z : j' = id'
              · rw [if_pos z] at g; cases g
                subst z
                exact ⟨Nat.le_refl _, by simp, id, x, cs, hj, q2, hx, hcs, rfl⟩
              · rw [if_neg z] at g
                obtain ⟨a1, a2, a3⟩ := hrens_get hh2 g
                exact ⟨by omega, by simp only [List.length_cons]; omega, a3⟩
            · cases e
          · cases e
    
theorem hlow_get {base : Nat} {h : AHeap} {id : Nat} {x : ABlk} : ∀ {k : Nat}, hget (hlow base h k) id = some x → id < k ∧ hget h id = some x ∧ AV.olds base x.cells = true
  | 0, g => by simp [hlow, hget_nil] at g
  | k + 1, g => by
    simp only [hlow] at g
    split at g
    · rename_i b hb
      cases q : AV.olds base b.cells with
      | false =>
        rw [q, cond_false] at g
        obtain ⟨a, b⟩ := hlow_get g
        exact ⟨by omega, b⟩
      | true =>
        rw [q, cond_true, hget_cons] at g
        by_cases z : k = id
        · rw [if_pos z] at g; cases g; subst z; exact ⟨by omega, hb, q⟩
        · rw [if_neg z] at g
          obtain ⟨a, b⟩ := hlow_get g
          exact ⟨by omega, b⟩
    · obtain ⟨a, b⟩ := hlow_get g
      exact ⟨by omega, b⟩
theorem newId_inj {base nb id1 id2 j : Nat} {l : List Nat} (h1 : newId base nb l id1 = some j) (h2 : newId base nb l id2 = some j) (b1 : base ≤ id1) (b2 : base ≤ id2) : id1 = id2 := by
  unfold newId at h1 h2
  rw [Nat.ble_eq_true_of_le b1, cond_true] at h1
  rw [Nat.ble_eq_true_of_le b2, cond_true] at h2
  split at h1
  · rename_i i hi
    split at h2
    · rename_i i' hi'
      simp only [Option.some.injEq] at h1 h2
      have : i = i' := by omega
      subst this
      have e1 := posOf_get hi
      have e2 := posOf_get hi'
      rw [e1] at e2; cases e2; rfl
    · cases h2
  · cases h1
/-- The placements behind a numbering anew. -/
def Th.ren (θ : Th) (base : Nat) (l : List Nat) : Th := ⟨fun id => if id < base then θ id else match l[id - base]? with | some old => θ old | none => none, θ.fz⟩
theorem ren_place {θ : Th} {base : Nat} {l : List Nat} : ∀ id id', newId base base l id = some id' → (θ.ren base l) id' = θ id := fun id id' h => by
  unfold newId at h
  cases q : Nat.ble base id with
  | true =>
    rw [q, cond_true] at h
    split at h
    · rename_i j hj
      simp only [Option.some.injEq] at h; subst h
      simp only [Th.ren, if_neg (show ¬ base + j < base by omega), Nat.add_sub_cancel_left, posOf_get hj]
    · cases h
  | false =>
    rw [q, cond_false] at h
    simp only [Option.some.injEq] at h; subst h
    have : id < base := by
      rcases Nat.lt_or_ge id base with z | z
      · exact z
      · rw [Nat.ble_eq_true_of_le z] at q; cases q
    simp only [Th.ren, if_pos this]

theorem keepG_rep {P : Program} {C : Cx} {θ : Th} {σ : Nat → Option Nat} {s s' : AS} {a : Act} {w : World} {base : Nat} {ts ls : List Nat} (R : Rep P C θ σ s.fs a w) (h : s.keepG base ts ls = some s') (hng : C.ng ≤ base) (hfl : C.fl ≤ base) :
    ∃ θ', Rep P C θ' σ s'.fs a w ∧ (∀ id, id < base → θ' id = θ id) ∧ (∀ id, s'.n ≤ id → θ' id = none) ∧ θ'.fz = θ.fz ∧ HB s'.h s'.n ∧ base ≤ s'.n := by
  unfold AS.keepG at h
  split at h
  · cases h
  · rename_i s1 hs1
    simp only at h
    generalize hL : (hidss base s1.h 16 (lidss base s1.loc (fidss base s1.fr [])).reverse (lidss base s1.loc (fidss base s1.fr []))).reverse = L at h
    split at h
    · cases h
    · rename_i fr hfr
      split at h
      · cases h
      · rename_i loc hloc
        split at h
        · cases h
        · rename_i hh hhh
          simp only [Option.some.injEq] at h; subst h
          obtain ⟨k1, k2, k3, k4, k5⟩ := keep_same hs1
          -- the facts that are kept
          have R1 : Rep P C θ σ s1.fs a w := R.weaken (fun t v e => by simp only [AS.fs, k3] at e; exact keepT_get e) (fun t v e => by simp only [AS.fs, k4] at e; exact keepL_get e) (by simp only [AS.fs, k1]) (fun t s2 off e => by
            simp only [AS.fs, k3, k4] at e ⊢
            exact lpOk_get k5 e)
          have hp := ren_place (θ := θ) (base := base) (l := L)
          have hf : Th.fle θ (θ.ren base L) := fun _ _ _ e => e
          have blk : ∀ id x, hget (hh ++ hlow base s1.h base) id = some x → ∃ id0 x0, hget s1.h id0 = some x0 ∧ x0.own = x.own ∧ x0.opn = x.opn ∧ x0.ty = x.ty ∧ x0.cells.length = x.cells.length ∧ (θ.ren base L) id = θ id0 ∧ (C.fl ≤ id → C.fl ≤ id0) ∧ id < base + L.length ∧
              ((base ≤ id ∧ base ≤ id0 ∧ newId base base L id0 = some id) ∨ (id < base ∧ id0 = id)) ∧ (∀ us, VRels θ x0.cells us → VRels (θ.ren base L) x.cells us) := by
            intro id x hx
            rw [hget_append] at hx
            cases q : hget hh id with
            | some y =>
              rw [q] at hx; simp at hx; subst hx
              obtain ⟨a1, a2, id0, x0, cs, b1, b2, b3, b4, rfl⟩ := hrens_get hhh q
              exact ⟨id0, x0, b3, rfl, rfl, rfl, (rens_len b4).symm, hp _ _ b1, fun _ => by omega, a2, .inl ⟨a1, b2, b1⟩, fun us r => rens_rel hp hf _ _ us b4 r⟩
            | none =>
              rw [q] at hx; simp at hx
              obtain ⟨a1, a2, a3⟩ := hlow_get hx
              refine ⟨id, x, a2, rfl, rfl, rfl, rfl, by simp only [Th.ren, if_pos a1], fun z => z, by omega, .inr ⟨a1, rfl⟩, fun us r => VRels.back (θ := θ.ren base L) (θ' := θ) (n := base) (fun id hid => by simp only [Th.ren, if_pos hid]) hf _ _ a3 r⟩
          refine ⟨θ.ren base L, ⟨⟨fun g hg => ?_, ?_, fun s cs e => ?_, fun s s' cs cs' e e' => ?_, fun id x e => ?_, fun s cs id x b o c e e' t => ?_, fun id id' x x' b o c o' c' e q e' hne t t' => ?_, fun id x b o c e q f t => ?_, fun id x b o c e t => ?_, R1.m.chg,
            R1.m.fzc, fun s cs b o u e => ?_, fun id x b o c o' u e q t => ?_, R1.m.fzn⟩, R1.t.size, R1.t.defers, fun t v e => ?_, fun t s off e => ?_⟩, fun id hid => by simp only [Th.ren, if_pos hid], fun id hid => ?_, rfl, fun id x e => ?_, ?_⟩
          · simp only [Th.ren, if_pos (Nat.lt_of_lt_of_le hg hng)]; exact R1.m.glob g hg
          · refine ⟨base + L.length, fun id hid => ?_⟩
            simp only [Th.ren, if_neg (show ¬ id < base by omega)]
            rw [List.getElem?_eq_none (by omega)]
          · obtain ⟨cs0, g1, g2⟩ := lrens_get hloc e
            obtain ⟨b, arr, ty, h1, h2, h3, h4⟩ := R1.m.loc s cs0 g1
            exact ⟨b, arr, ty, h1, h2, h3, rens_rel hp hf _ _ _ g2 h4⟩
          · obtain ⟨cs0, g1, _⟩ := lrens_get hloc e
            obtain ⟨cs1, g2, _⟩ := lrens_get hloc e'
            exact R1.m.dll s s' cs0 cs1 g1 g2
          · obtain ⟨id0, x0, c1, c2, c3, c4, c5, c6, c7, _, c8, c9⟩ := blk id x e
            obtain ⟨b, o, c, h1, h2, h3⟩ := R1.m.hp id0 x0 c1
            refine ⟨b, o, c, by rw [c6]; exact h1, h2, ?_⟩
            unfold BRel at h3 ⊢
            rw [c2] at h3
            split
            · rename_i hx
              rw [if_pos hx] at h3
              obtain ⟨z0, arr, z1, z2, z3, z4⟩ := h3
              rw [c5] at z2 z3 z4
              rw [c4] at z1 z4
              rw [c3] at z4
              exact ⟨z0, arr, z1, z2, c9 _ z3, z4⟩
            · rename_i hx
              rw [if_neg hx] at h3
              have key : ∃ us : List Value, us.length = x0.cells.length ∧ VRels θ x0.cells us ∧ ∀ i u, us[i]? = some u → w.cell? ⟨b, o + i, none⟩ = some u := by
                have : ∀ m, m ≤ x0.cells.length → ∃ us : List Value, us.length = m ∧ VRels θ (x0.cells.take m) us ∧ ∀ i u, us[i]? = some u → w.cell? ⟨b, o + i, none⟩ = some u := by
                  intro m
                  induction m with
                  | zero => intro _; exact ⟨[], rfl, by simp [VRels], by simp⟩
                  | succ m ih =>
                    intro hm
                    obtain ⟨us, u1, u2, u3⟩ := ih (by omega)
                    obtain ⟨u, v1, v2⟩ := h3 m x0.cells[m] (List.getElem?_eq_getElem (by omega))
                    refine ⟨us ++ [u], by simp [u1], ?_, fun i y hy => ?_⟩
                    · rw [List.take_succ_eq_append_getElem (by omega)]
                      exact u2.append (by simp only [VRels]; exact ⟨u, [], rfl, v2, rfl⟩)
                    · rw [List.getElem?_append] at hy
                      split at hy
                      · exact u3 i y hy
                      · rename_i hi
                        have : i = m := by
                          have := (List.getElem?_eq_some_iff.1 hy).1
                          simp at this; omega
                        subst this
                        simp [u1] at hy; subst hy; exact v1
                obtain ⟨us, u1, u2, u3⟩ := this _ (Nat.le_refl _)
                rw [List.take_length] at u2
                exact ⟨us, u1, u2, u3⟩
              obtain ⟨us, u1, u2, u3⟩ := key
              intro i v hv
              obtain ⟨u, v1, v2⟩ := (c9 us u2).get hv
              exact ⟨u, u3 i u v1, v2⟩
          · obtain ⟨cs0, g1, _⟩ := lrens_get hloc e
            obtain ⟨id0, x0, c1, c2, c3, c4, c5, c6, c7, _, c8, c9⟩ := blk id x e'
            rw [c6] at t
            exact R1.m.dlh s cs0 id0 x0 b o c g1 c1 t
          · obtain ⟨id0, x0, c1, c2, _, _, _, c6, _, _, c8, _⟩ := blk id x e
            obtain ⟨id1, x1, d1, d2, _, _, _, d6, _, _, d8, _⟩ := blk id' x' e'
            rw [c6] at t; rw [d6] at t'
            refine R1.m.dhh id0 id1 x0 x1 b o c o' c' c1 (by rw [c2]; exact q) d1 (fun z => ?_) t t'
            subst z
            rcases c8 with ⟨p1, p2, p3⟩ | ⟨p1, p2⟩ <;> rcases d8 with ⟨q1, q2, q3⟩ | ⟨q1, q2⟩
            · rw [p3] at q3; cases q3; exact hne rfl
            · omega
            · omega
            · exact hne (p2.symm.trans q2)
          · obtain ⟨id0, x0, c1, c2, _, _, _, c6, c7, _⟩ := blk id x e
            rw [c6] at t
            exact R1.m.ownok id0 x0 b o c c1 (by rw [c2]; exact q) (c7 f) t
          · obtain ⟨id0, x0, c1, c2, _, _, _, c6, _⟩ := blk id x e
            rw [c6] at t
            exact R1.m.bok id0 x0 b o c c1 t
          · obtain ⟨cs0, g1, _⟩ := lrens_get hloc e
            exact R1.m.fzl s cs0 b o u g1
          · obtain ⟨id0, x0, c1, c2, _, _, _, c6, _⟩ := blk id x e
            rw [c6] at t
            exact R1.m.fzh id0 x0 b o c o' u c1 (by rw [c2]; exact q) t
          · obtain ⟨v0, g1, g2⟩ := frens_get hfr e
            exact trel_ren hp hf g2 (R1.t.tmp t v0 g1)
          · obtain ⟨v0, g1, g2⟩ := frens_get hfr e
            have := ren_lp g2; subst this
            exact lrens_some hloc (R1.t.lpok t s off g1)
          · simp only at hid
            simp only [Th.ren, if_neg (show ¬ id < base by omega)]
            rw [List.getElem?_eq_none (by omega)]
          · obtain ⟨_, _, _, _, _, _, _, _, _, c8, _⟩ := blk id x e
            exact c8
          · simp

end Go.Proofs.YtogkkamlmklpkaaDoor.Ab
