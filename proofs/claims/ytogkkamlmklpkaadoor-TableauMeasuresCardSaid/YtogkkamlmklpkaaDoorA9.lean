/- Each operation of the abstract machine does what the model's operation does (sixth part: calls). No condition: lemmas only. -/
import Derived.Test.YtogkkamlmklpkaaDoorA8F
set_option linter.unusedVariables false
set_option linter.unusedSimpArgs false
namespace Go.Proofs.YtogkkamlmklpkaaDoor.Ab
open Go

/-! ### What becomes of the abstract memory -/
/-- The blocks of a later memory were there, or have come since and are one's own. -/
def Heir (h0 : AHeap) (n0 : Nat) (h : AHeap) (n : Nat) : Prop :=
  n0 ≤ n ∧ ∀ id x, hget h id = some x → (∃ y, hget h0 id = some y ∧ y.own = x.own) ∨ (n0 ≤ id ∧ id < n ∧ x.own = true)
def HB (h : AHeap) (n : Nat) : Prop := ∀ id x, hget h id = some x → id < n
theorem Heir.refl (h : AHeap) (n : Nat) : Heir h n h n := ⟨Nat.le_refl _, fun _ x e => .inl ⟨x, e, rfl⟩⟩
theorem Heir.trans {h0 h1 h2 : AHeap} {n0 n1 n2 : Nat} (a : Heir h0 n0 h1 n1) (b : Heir h1 n1 h2 n2) : Heir h0 n0 h2 n2 :=
  ⟨Nat.le_trans a.1 b.1, fun id x e => by
    rcases b.2 id x e with ⟨y, hy, q⟩ | ⟨p1, p2, p3⟩
    · rcases a.2 id y hy with ⟨z, hz, q'⟩ | ⟨p1, p2, p3⟩
      · exact .inl ⟨z, hz, q'.trans q⟩
      · exact .inr ⟨p1, Nat.lt_of_lt_of_le p2 b.1, q ▸ p3⟩
    · exact .inr ⟨Nat.le_trans a.1 p1, p2, p3⟩⟩
theorem Heir.hb {h0 h : AHeap} {n0 n : Nat} (a : Heir h0 n0 h n) (b : HB h0 n0) : HB h n := fun id x e => by
  rcases a.2 id x e with ⟨y, hy, _⟩ | ⟨_, p, _⟩
  · exact Nat.lt_of_lt_of_le (b id y hy) a.1
  · exact p

/-- An operation's effect upon the memory. -/
def HeirE (s : AS) (e : Eff) : Prop :=
  s.n ≤ e.n ∧ match e.all with
  | some h => Heir s.h s.n h e.n
  | none => ∀ id x, hlook e.hp id = some (some x) → (∃ y, hget s.h id = some y ∧ y.own = x.own) ∨ (s.n ≤ id ∧ id < e.n ∧ x.own = true)
theorem HeirE.put {s : AS} {e : Eff} (h : HeirE s e) (d : Option Nat) : Heir s.h s.n (s.put d e).h (s.put d e).n := by
  obtain ⟨h1, h2⟩ := h
  unfold AS.put
  split at h2
  · rename_i q hq; simp only [hq]; exact h2
  · rename_i hq
    simp only [hq]
    refine ⟨h1, fun id x hx => ?_⟩
    rw [hget_happly] at hx
    split at hx
    · rename_i b hb; subst hx; exact h2 id x hb
    · exact .inl ⟨x, hx, rfl⟩
/-- An effect that is seen from a memory of which some blocks are hidden. -/
theorem HeirE.wide {s : AS} {l : List Nat} {e : Eff} (h : HeirE { s with h := hhide l s.h } e) (ha : e.all = none) : HeirE s e := by
  obtain ⟨h1, h2⟩ := h
  refine ⟨h1, ?_⟩
  rw [ha] at h2 ⊢
  intro id x hx
  rcases h2 id x hx with ⟨y, hy, q⟩ | p
  · rw [hget_hhide] at hy
    split at hy
    · cases hy
    · exact .inl ⟨y, hy, q⟩
  · exact .inr p

def OHeir (O : Orc) : Prop := ∀ g args h n fl v h' n', O g args h n fl = some (v, some (h', n')) → HB h n → Heir h n h' n'

theorem heir0 {s : AS} {v : Option AV} {l : List (Nat × List AV)} : HeirE s ⟨v, l, [], s.n, none⟩ := ⟨Nat.le_refl _, fun id x h => by simp [hlook_nl, hlook_cns] at h⟩
theorem heir_v {s : AS} {v : AV} : HeirE s (Eff.v v s.n) := heir0
theorem heir_n {s : AS} {v : Option AV} {n : Nat} (h : s.n ≤ n) : HeirE s ⟨v, [], [], n, none⟩ := ⟨h, fun id x h => by simp [hlook_nl, hlook_cns] at h⟩
theorem heir_new {s : AS} {v : Option AV} {x : ABlk} (h : x.own = true) : HeirE s ⟨v, [], [(s.n, some x)], s.n + 1, none⟩ := ⟨by simp, fun id y hy => by
  simp only [hlook_nl, hlook_cns] at hy
  cases e : Nat.beq s.n id with
  | false => simp [e] at hy
  | true =>
    have e := beq_true.1 e; subst e
    simp [beq_true.2] at hy; subst hy
    exact .inr ⟨Nat.le_refl _, by simp, h⟩⟩
theorem heir_set {fl : Nat} {s : AS} {v : Option AV} {id : Nat} {b : ABlk} {q : Bool} {ty : TypeId} {ez : Nat} {cs : List AV} (h : ownAt fl s.h id = some b) : HeirE s ⟨v, [], [(id, some ⟨b.own, q, ty, ez, cs⟩)], s.n, none⟩ := ⟨Nat.le_refl _, fun id' y hy => by
  obtain ⟨h1, h2, _⟩ := ownAt_of h
  simp only [hlook_nl, hlook_cns] at hy
  cases e : Nat.beq id id' with
  | false => simp [e] at hy
  | true =>
    have e := beq_true.1 e; subst e
    simp [beq_true.2] at hy; subst hy
    exact .inl ⟨b, h1, rfl⟩⟩
theorem heir_move {s : AS} {v : Option AV} {id : Nat} {x : ABlk} (h : x.own = true) : HeirE s ⟨v, [], [(id, none), (s.n, some x)], s.n + 1, none⟩ := ⟨by simp, fun id' y hy => by
  simp only [hlook_nl, hlook_cns] at hy
  cases e' : Nat.beq id id' with
  | true => simp [e'] at hy
  | false =>
    simp only [e', cond_false] at hy
    cases e : Nat.beq s.n id' with
    | false => simp [e] at hy
    | true =>
      have e := beq_true.1 e; subst e
      simp [beq_true.2] at hy; subst hy
      exact .inr ⟨Nat.le_refl _, by simp, h⟩⟩
theorem hlook_map (h : AHeap) (id : Nat) : hlook (h.map fun p => (p.1, some p.2)) id = (hget h id).map some := by
  induction h with
  | nil => rfl
  | cons p r ih =>
    obtain ⟨k, b⟩ := p
    simp only [List.map_cons, hlook_nl, hlook_cns, hget_nil, hget_cns, ih]
    cases Nat.beq k id <;> rfl
theorem heir_call {s : AS} {v : Option AV} {h' : AHeap} {n' : Nat} (h : Heir s.h s.n h' n') (hb : HB s.h s.n) : HeirE s ⟨v, [], (hnew h' s.n).map fun p => (p.1, some p.2), n', none⟩ := ⟨h.1, fun id y hy => by
  rw [hlook_map] at hy
  simp only [Option.map_eq_some_iff, Option.some.injEq] at hy
  obtain ⟨z, hz, rfl⟩ := hy
  rw [hget_hnew] at hz
  split at hz
  · rename_i hle
    rcases h.2 id z hz with ⟨y, hy, q⟩ | p
    · exact .inl ⟨y, hy, q⟩
    · exact .inr p
  · cases hz⟩

open Classical in
/-- What comes behind, where the effect is as it has to be. -/
noncomputable def kg (s : AS) (k : Eff → Foot → Option Res) (e : Eff) (f : Foot) : Option Res := if HeirE s e then k e f else none
theorem kg_pos {s : AS} {k : Eff → Foot → Option Res} {e : Eff} {f : Foot} {r : Res} (h : HeirE s e) (q : k e f = some r) : kg s k e f = some r := by unfold kg; rw [if_pos h]; exact q
theorem kg_of {s : AS} {k : Eff → Foot → Option Res} {e : Eff} {f : Foot} {r : Res} (q : kg s k e f = some r) : HeirE s e ∧ k e f = some r := by
  unfold kg at q
  split at q
  · rename_i h; exact ⟨h, q⟩
  · cases q

theorem evOp_heir {O : Orc} {fl : Nat} {d : Option Nat} {op : AOp} {s : AS} {k : Eff → Foot → Option Res} {r : Res} (hO : OHeir O) (hb : HB s.h s.n) (h : evOp O fl d op s k = some r) :
    evOp O fl d op s (kg s k) = some r := by
  revert h
  cases op with
  | alloc lc ty z => cases lc <;> simp only [evOp_mv, evOp_nchk, evOp_pop, evOp_pick, evOp_alloc_true, evOp_alloc_false, evOp_box_true, evOp_box_false, evOp_build, evOp_bslice, evOp_load, evOp_store, evOp_bin, evOp_eqs, evOp_eqb, evOp_eqnil, evOp_un, evOp_conv, evOp_fadr, evOp_fld, evOp_iadr, evOp_iadra, evOp_idx, evOp_idxs, evOp_slc, evOp_ext, evOp_mkf, evOp_mks, evOp_call, evOp_len_false, evOp_len_true, evOp_app, evOp_mm, Bool.cond_eq_ite] <;> (repeat' split) <;> intro h <;> first
    | (cases h; done)
    | exact kg_pos heir0 h
    | exact kg_pos (heir_new rfl) h
  | box lc ty z => cases lc <;> simp only [evOp_mv, evOp_nchk, evOp_pop, evOp_pick, evOp_alloc_true, evOp_alloc_false, evOp_box_true, evOp_box_false, evOp_build, evOp_bslice, evOp_load, evOp_store, evOp_bin, evOp_eqs, evOp_eqb, evOp_eqnil, evOp_un, evOp_conv, evOp_fadr, evOp_fld, evOp_iadr, evOp_iadra, evOp_idx, evOp_idxs, evOp_slc, evOp_ext, evOp_mkf, evOp_mks, evOp_call, evOp_len_false, evOp_len_true, evOp_app, evOp_mm, Bool.cond_eq_ite] <;> (repeat' split) <;> intro h <;> first
    | (cases h; done)
    | exact kg_pos heir0 h
    | exact kg_pos (heir_new rfl) h
  | len b x => cases b <;> simp only [evOp_mv, evOp_nchk, evOp_pop, evOp_pick, evOp_alloc_true, evOp_alloc_false, evOp_box_true, evOp_box_false, evOp_build, evOp_bslice, evOp_load, evOp_store, evOp_bin, evOp_eqs, evOp_eqb, evOp_eqnil, evOp_un, evOp_conv, evOp_fadr, evOp_fld, evOp_iadr, evOp_iadra, evOp_idx, evOp_idxs, evOp_slc, evOp_ext, evOp_mkf, evOp_mks, evOp_call, evOp_len_false, evOp_len_true, evOp_app, evOp_mm, Bool.cond_eq_ite] <;> (repeat' split) <;> intro h <;> first
    | (cases h; done)
    | exact kg_pos heir_v h
  | call mode f args =>
    simp only [evOp_mv, evOp_nchk, evOp_pop, evOp_pick, evOp_alloc_true, evOp_alloc_false, evOp_box_true, evOp_box_false, evOp_build, evOp_bslice, evOp_load, evOp_store, evOp_bin, evOp_eqs, evOp_eqb, evOp_eqnil, evOp_un, evOp_conv, evOp_fadr, evOp_fld, evOp_iadr, evOp_iadra, evOp_idx, evOp_idxs, evOp_slc, evOp_ext, evOp_mkf, evOp_mks, evOp_call, evOp_len_false, evOp_len_true, evOp_app, evOp_mm, Bool.cond_eq_ite]
    (repeat' split) <;> intro h
    all_goals first
      | (cases h; done)
      | exact kg_pos heir_v h
      | skip
    all_goals first
      | exact kg_pos (heir_n (hO _ _ _ _ _ _ _ _ (by assumption) hb).1) h
      | exact kg_pos (heir_call (hO _ _ _ _ _ _ _ _ (by assumption) hb) hb) h
      | exact kg_pos ⟨(hO _ _ _ _ _ _ _ _ (by assumption) hb).1, hO _ _ _ _ _ _ _ _ (by assumption) hb⟩ h
  | _ =>
    simp only [evOp_mv, evOp_nchk, evOp_pop, evOp_pick, evOp_alloc_true, evOp_alloc_false, evOp_box_true, evOp_box_false, evOp_build, evOp_bslice, evOp_load, evOp_store, evOp_bin, evOp_eqs, evOp_eqb, evOp_eqnil, evOp_un, evOp_conv, evOp_fadr, evOp_fld, evOp_iadr, evOp_iadra, evOp_idx, evOp_idxs, evOp_slc, evOp_ext, evOp_mkf, evOp_mks, evOp_call, evOp_len_false, evOp_len_true, evOp_app, evOp_mm, Bool.cond_eq_ite]
    (repeat' split) <;> intro h <;> first
    | (cases h; done)
    | exact kg_pos heir_v h
    | exact kg_pos heir0 h
    | exact kg_pos (heir_new rfl) h
    | exact kg_pos (heir_move rfl) h
    | exact kg_pos (heir_set (by assumption)) h

theorem evOp_ex {O : Orc} {fl : Nat} {d : Option Nat} {op : AOp} {s : AS} {k : Eff → Foot → Option Res} {r : Res} (h : evOp O fl d op s k = some r) : ∃ e f, k e f = some r := by
  revert h
  cases op with
  | alloc lc ty z => cases lc <;> simp only [evOp_mv, evOp_nchk, evOp_pop, evOp_pick, evOp_alloc_true, evOp_alloc_false, evOp_box_true, evOp_box_false, evOp_build, evOp_bslice, evOp_load, evOp_store, evOp_bin, evOp_eqs, evOp_eqb, evOp_eqnil, evOp_un, evOp_conv, evOp_fadr, evOp_fld, evOp_iadr, evOp_iadra, evOp_idx, evOp_idxs, evOp_slc, evOp_ext, evOp_mkf, evOp_mks, evOp_call, evOp_len_false, evOp_len_true, evOp_app, evOp_mm, Bool.cond_eq_ite] <;> (repeat' split) <;> intro h <;> first
    | (cases h; done)
    | exact ⟨_, _, h⟩
  | box lc ty z => cases lc <;> simp only [evOp_mv, evOp_nchk, evOp_pop, evOp_pick, evOp_alloc_true, evOp_alloc_false, evOp_box_true, evOp_box_false, evOp_build, evOp_bslice, evOp_load, evOp_store, evOp_bin, evOp_eqs, evOp_eqb, evOp_eqnil, evOp_un, evOp_conv, evOp_fadr, evOp_fld, evOp_iadr, evOp_iadra, evOp_idx, evOp_idxs, evOp_slc, evOp_ext, evOp_mkf, evOp_mks, evOp_call, evOp_len_false, evOp_len_true, evOp_app, evOp_mm, Bool.cond_eq_ite] <;> (repeat' split) <;> intro h <;> first
    | (cases h; done)
    | exact ⟨_, _, h⟩
  | len b x => cases b <;> simp only [evOp_mv, evOp_nchk, evOp_pop, evOp_pick, evOp_alloc_true, evOp_alloc_false, evOp_box_true, evOp_box_false, evOp_build, evOp_bslice, evOp_load, evOp_store, evOp_bin, evOp_eqs, evOp_eqb, evOp_eqnil, evOp_un, evOp_conv, evOp_fadr, evOp_fld, evOp_iadr, evOp_iadra, evOp_idx, evOp_idxs, evOp_slc, evOp_ext, evOp_mkf, evOp_mks, evOp_call, evOp_len_false, evOp_len_true, evOp_app, evOp_mm, Bool.cond_eq_ite] <;> (repeat' split) <;> intro h <;> first
    | (cases h; done)
    | exact ⟨_, _, h⟩
  | _ =>
    simp only [evOp_mv, evOp_nchk, evOp_pop, evOp_pick, evOp_alloc_true, evOp_alloc_false, evOp_box_true, evOp_box_false, evOp_build, evOp_bslice, evOp_load, evOp_store, evOp_bin, evOp_eqs, evOp_eqb, evOp_eqnil, evOp_un, evOp_conv, evOp_fadr, evOp_fld, evOp_iadr, evOp_iadra, evOp_idx, evOp_idxs, evOp_slc, evOp_ext, evOp_mkf, evOp_mks, evOp_call, evOp_len_false, evOp_len_true, evOp_app, evOp_mm, Bool.cond_eq_ite]
    (repeat' split) <;> intro h <;> first
    | (cases h; done)
    | exact ⟨_, _, h⟩

end Go.Proofs.YtogkkamlmklpkaaDoor.Ab
