/- What it is for the abstract memory to stand for the model's, and what is kept of that when the world changes. No condition: definitions and lemmas only. -/
import Derived.Test.YtogkkamlmklpkaaDoorA2
import Derived.Laws.AppendOwn
import Derived.Laws.Tables
set_option linter.unusedVariables false
set_option linter.unusedSimpArgs false
namespace Go.Proofs.YtogkkamlmklpkaaDoor.Ab
open Go

/-- From one world to a later one nothing that was there has turned but blocks of 'M'. -/
structure Chg (M : Nat → Prop) (w w' : World) : Prop where
  os : w'.os = w.os
  tape : w'.tape = w.tape
  output : w'.output = w.output
  size : w.heap.size ≤ w'.heap.size
  block : ∀ b, b < w.heap.size → ¬ M b → w'.heap[b]? = w.heap[b]?

theorem Chg.refl (M : Nat → Prop) (w : World) : Chg M w w := ⟨rfl, rfl, rfl, Nat.le_refl _, fun _ _ _ => rfl⟩
theorem Chg.mono {M M' : Nat → Prop} {w w' : World} (h : Chg M w w') (k : ∀ b, b < w.heap.size → M b → M' b) : Chg M' w w' :=
  ⟨h.os, h.tape, h.output, h.size, fun b hb hm => h.block b hb fun m => hm (k b hb m)⟩
theorem Chg.trans {M M' : Nat → Prop} {w w1 w2 : World} (h : Chg M w w1) (k : Chg M' w1 w2) (hm : ∀ b, b < w.heap.size → M' b → M b) : Chg M w w2 :=
  ⟨k.os.trans h.os, k.tape.trans h.tape, k.output.trans h.output, Nat.le_trans h.size k.size, fun b hb n =>
    (k.block b (Nat.lt_of_lt_of_le hb h.size) fun m => n (hm b hb m)).trans (h.block b hb n)⟩
theorem Chg.alloc (M : Nat → Prop) (w : World) (o : Obj) : Chg M w (w.alloc o) :=
  ⟨rfl, rfl, rfl, by simp, fun b hb _ => by
    show (w.heap.push o)[b]? = _
    rw [Array.getElem?_push, if_neg (by omega)]⟩
theorem Chg.drew (M : Nat → Prop) (w : World) : Chg M w w.drew := ⟨rfl, rfl, rfl, Nat.le_refl _, fun _ _ _ => rfl⟩
theorem Chg.cell {M : Nat → Prop} {w w' : World} (h : Chg M w w') {a : Addr} (ha : a.block < w.heap.size) (hm : ¬ M a.block) : w'.cell? a = w.cell? a :=
  World.cell?_of_block (h.block a.block ha hm)

theorem Chg.row (w : World) (b : Nat) (cs : Array Value) : Chg (· = b) w (w.setRow b cs) :=
  ⟨rfl, rfl, rfl, by simp, fun b' _ n => setRow_other w b b' cs n⟩

section
variable (P : Program)

/-- A block that stands for another. -/
def BRel (θ : Th) (x : ABlk) (b o c : Nat) (w : World) : Prop :=
  if x.own = true then
    o = 0 ∧ ∃ arr, w.heap[b]? = some (.cells arr x.ty (0, 0)) ∧ x.cells.length ≤ arr.size ∧ VRels θ x.cells (arr.toList.take x.cells.length) ∧
      (if x.opn = true then arr.size = c * P.cellsOf x.ty ∧ c ≤ maxLen else arr.size = x.cells.length)
  else ∀ (i : Nat) (v : AV), x.cells[i]? = some v → ∃ u, w.cell? ⟨b, o + i, none⟩ = some u ∧ VRel θ v u

theorem BRel.keep {θ θ' : Th} {x : ABlk} {b o c : Nat} {w w' : World} {M : Nat → Prop} (h : BRel P θ x b o c w) (hθ : Th.le θ θ') (hc : Chg M w w') (hm : ¬ M b) : BRel P θ' x b o c w' := by
  unfold BRel at *
  split
  · rename_i e
    rw [if_pos e] at h
    obtain ⟨h0, arr, h1, h2, h3, h4⟩ := h
    exact ⟨h0, arr, by rw [hc.block b (Array.getElem?_eq_some_iff.1 h1).1 hm]; exact h1, h2, VRels.mono hθ _ _ h3, h4⟩
  · rename_i e
    rw [if_neg e] at h
    intro i v hv
    obtain ⟨u, hu, hr⟩ := h i v hv
    exact ⟨u, by rw [hc.cell (World.block_lt_of_cell? w _ hu) hm]; exact hu, VRel.mono hθ _ _ hr⟩

/-- A cell of a block that is read. -/
theorem BRel.at {θ : Th} {x : ABlk} {b o c : Nat} {w : World} (h : BRel P θ x b o c w) {i : Nat} {v : AV} (hv : x.cells[i]? = some v) : ∃ u, w.cell? ⟨b, o + i, none⟩ = some u ∧ VRel θ v u := by
  unfold BRel at h
  split at h
  · obtain ⟨rfl, arr, h1, h2, h3, _⟩ := h
    obtain ⟨u, hu, hr⟩ := h3.get hv
    refine ⟨u, ?_, hr⟩
    rw [List.getElem?_take] at hu
    split at hu
    · simp only [World.cell?, h1, Nat.zero_add]
      simpa using hu
    · cases hu
  · exact h i v hv

/-- Facts: what temporaries, slots and blocks hold. -/
structure FS where
  tmp : Nat → Option AV
  loc : Nat → Option (List AV)
  hp : Nat → Option ABlk

/-- What a call began with: the world, the old blocks that may be written, those that are known, the floor, the number of variables that are numbered as they are; how many temporaries. -/
structure Cx where
  w0 : World
  M0 : Nat → Prop
  B0 : Nat → Prop
  fl : Nat
  ng : Nat
  N : Nat
  fz0 : Nat → Nat → Option Value

def TRel (θ : Th) (σ : Nat → Option Nat) (v : AV) (u : Value) : Prop :=
  match v with
  | .lp s off => ∃ b, σ s = some b ∧ u = .pointer (some ⟨b, off, none⟩)
  | v => VRel θ v u
theorem TRel.of {θ : Th} {σ : Nat → Option Nat} {v : AV} {u : Value} (h : VRel θ v u) : TRel θ σ v u := by
  unfold TRel
  split
  · simp [VRel] at h
  · exact h
theorem TRel.val {θ : Th} {σ : Nat → Option Nat} {v : AV} {u : Value} (h : TRel θ σ v u) (hv : v.islp = false) : VRel θ v u := by
  unfold TRel at h
  split at h
  · simp [AV.islp] at hv
  · exact h

/-- The memory's part. -/
structure RepM (C : Cx) (θ : Th) (σ : Nat → Option Nat) (F : FS) (w : World) : Prop where
  glob : ∀ g, g < C.ng → θ g = some (g, 0, 0)
  fin : ∃ B, ∀ id, B ≤ id → θ id = none
  loc : ∀ s cs, F.loc s = some cs → ∃ b arr ty, σ s = some b ∧ C.w0.heap.size ≤ b ∧ w.heap[b]? = some (.cells arr ty (0, 0)) ∧ VRels θ cs arr.toList
  dll : ∀ s s' cs cs', F.loc s = some cs → F.loc s' = some cs' → s ≠ s' → σ s ≠ σ s'
  hp : ∀ id x, F.hp id = some x → ∃ b o c, θ id = some (b, o, c) ∧ b < w.heap.size ∧ BRel P θ x b o c w
  dlh : ∀ s cs id x b o c, F.loc s = some cs → F.hp id = some x → θ id = some (b, o, c) → σ s ≠ some b
  dhh : ∀ id id' x x' b o c o' c', F.hp id = some x → x.own = true → F.hp id' = some x' → id ≠ id' → θ id = some (b, o, c) → θ id' = some (b, o', c') → False
  ownok : ∀ id x b o c, F.hp id = some x → x.own = true → C.fl ≤ id → θ id = some (b, o, c) → C.M0 b ∨ C.w0.heap.size ≤ b
  bok : ∀ id x b o c, F.hp id = some x → θ id = some (b, o, c) → C.B0 b ∨ C.w0.heap.size ≤ b
  chg : Chg C.M0 C.w0 w
  fzc : ∀ b o u, θ.fz b o = some u → w.cell? ⟨b, o, none⟩ = some u
  fzl : ∀ s cs b o u, F.loc s = some cs → σ s = some b → θ.fz b o = some u → False
  fzh : ∀ id x b o c o' u, F.hp id = some x → x.own = true → θ id = some (b, o, c) → θ.fz b o' = some u → False
  fzn : ∀ b o u, θ.fz b o = some u → C.fz0 b o = some u ∨ C.w0.heap.size ≤ b

/-- The temporaries' part. -/
structure RepT (C : Cx) (θ : Th) (σ : Nat → Option Nat) (F : FS) (a : Act) : Prop where
  size : a.tmps.size = C.N
  defers : a.defers = []
  tmp : ∀ t v, F.tmp t = some v → TRel θ σ v (a.tmps.getD t undef)
  lpok : ∀ t s off, F.tmp t = some (.lp s off) → (F.loc s).isSome = true

structure Rep (C : Cx) (θ : Th) (σ : Nat → Option Nat) (F : FS) (a : Act) (w : World) : Prop where
  m : RepM P C θ σ F w
  t : RepT C θ σ F a

/-- Placements are kept, and new ones come between two numbers. -/
structure Th.ext (θ θ' : Th) (lo hi : Nat) : Prop where
  pl : ∀ id, θ' id = θ id ∨ (θ id = none ∧ lo ≤ id ∧ id < hi)
  fz : Th.fle θ θ'
theorem Th.ext_refl (θ : Th) (lo hi : Nat) : Th.ext θ θ lo hi := ⟨fun _ => .inl rfl, Th.fle_refl θ⟩
theorem Th.ext.le {θ θ' : Th} {lo hi : Nat} (h : Th.ext θ θ' lo hi) : Th.le θ θ' := ⟨fun id t e => (by
  rcases h.pl id with k | ⟨k, _⟩
  · rw [k, e]
  · rw [k] at e; cases e), h.fz⟩

noncomputable def FS.put (F : FS) (d : Option Nat) (e : Eff) : FS where
  tmp t := if d = some t then e.val else F.tmp t
  loc s := (lget e.loc s).or (F.loc s)
  hp id := match e.all with
    | some h => hget h id
    | none => match hlook e.hp id with
      | some b => b
      | none => F.hp id
noncomputable def AS.fs (s : AS) : FS := ⟨fget s.fr, lget s.loc, hget s.h⟩

theorem hget_happly (h : AHeap) (l : List (Nat × Option ABlk)) (id : Nat) : hget (happly h l) id = match hlook l id with | some b => b | none => hget h id := by
  induction l with
  | nil => rfl
  | cons p r ih =>
    obtain ⟨k, b⟩ := p
    cases b with
    | none =>
      simp only [happly, hget_hdel, hlook_nl, hlook_cns]
      by_cases e : k = id
      · subst e; simp [beq_true.2]
      · rw [if_neg e, beq_false.2 e, cond_false]; exact ih
    | some b =>
      simp only [happly, hlook_nl, hlook_cns]
      by_cases e : k = id
      · subst e
        simp only [beq_true.2, cond_true]
        split
        · rename_i q; rw [hget_hput]; simp [q]
        · exact hget_cons_same ..
      · simp only [beq_false.2 e, cond_false]
        split
        · rw [hget_hput, if_neg (by simp [e])]; exact ih
        · rw [hget_cons_ne e]; exact ih
theorem lget_append (a b : List (Nat × List AV)) (t : Nat) : lget (a ++ b) t = (lget a t).or (lget b t) := by
  induction a with
  | nil => simp [lget_nil, lget_cns]
  | cons p r ih =>
    obtain ⟨k, x⟩ := p
    simp only [List.cons_append, lget_cons, ih]
    split <;> simp
theorem fs_put (s : AS) (d : Option Nat) (e : Eff) : (s.put d e).fs = s.fs.put d e := by
  unfold AS.put AS.fs FS.put
  congr 1
  · funext t
    cases d with
    | none => simp [fput]
    | some x =>
      simp only [Option.some.injEq]
      cases hv : e.val with
      | none => simp only [fput, fget_fdel]
      | some v => simp only [fput, fget_cons]
  · funext t; exact lget_append ..
  · funext id
    cases e.all with
    | some h => rfl
    | none => exact hget_happly ..

/-! ### What an operation's run leaves -/
variable {P}
theorem Act.put_size (a : Act) (d : Option Nat) (v : Value) : (a.put d v).tmps.size = a.tmps.size := by cases d <;> simp [Act.put]
theorem Act.put_defers (a : Act) (d : Option Nat) (v : Value) : (a.put d v).defers = a.defers := by cases d <;> rfl
theorem Act.put_get (a : Act) (d : Nat) (v : Value) (h : d < a.tmps.size) (t : Nat) : (a.put (some d) v).tmps.getD t undef = if d = t then v else a.tmps.getD t undef := by
  simp only [Act.put, Array.getD_eq_getD_getElem?, Array.getElem?_setIfInBounds]
  by_cases e : d = t
  · subst e; simp [h]
  · simp [e]

/-- The temporaries behind an operation: the old ones stand, the new one is given. -/
theorem RepT.step {C : Cx} {θ θ' : Th} {σ σ' : Nat → Option Nat} {F : FS} {a : Act} {d : Option Nat} {e : Eff} {v : Value} (R : RepT C θ σ F a) (hθ : Th.le θ θ')
    (hσ : ∀ s, (F.loc s).isSome = true → σ' s = σ s) (hd : ∀ t, d = some t → t < C.N) (hv : ∀ x, e.val = some x → TRel θ' σ' x v)
    (hl : ∀ s off, e.val = some (.lp s off) → ((lget e.loc s).or (F.loc s)).isSome = true) : RepT C θ' σ' (F.put d e) (a.put d v) := by
  have keep : ∀ t x, F.tmp t = some x → TRel θ' σ' x (a.tmps.getD t undef) := fun t x hx => by
    have r := R.tmp t x hx
    unfold TRel at r ⊢
    split at r
    · rename_i s off
      obtain ⟨b, hb, rfl'⟩ := r
      exact ⟨b, by rw [hσ s (R.lpok t s off hx)]; exact hb, rfl'⟩
    · exact VRel.mono hθ _ _ r
  refine ⟨by rw [Act.put_size]; exact R.size, by rw [Act.put_defers]; exact R.defers, fun t x hx => ?_, fun t s off hx => ?_⟩
  · cases d with
    | none => exact keep t x (by simpa [FS.put] using hx)
    | some y =>
      rw [Act.put_get a y v (by rw [R.size]; exact hd y rfl)]
      simp only [FS.put, Option.some.injEq] at hx
      by_cases e' : y = t
      · rw [if_pos e'] at hx ⊢; exact hv x hx
      · rw [if_neg e'] at hx ⊢; exact keep t x hx
  · have old : F.tmp t = some (.lp s off) → ((F.put d e).loc s).isSome = true := fun h => by
      have := R.lpok t s off h
      simp only [FS.put]
      cases lget e.loc s with
      | none => simpa using this
      | some y => simp
    cases d with
    | none => exact old (by simpa [FS.put] using hx)
    | some y =>
      simp only [FS.put, Option.some.injEq] at hx
      by_cases e' : y = t
      · rw [if_pos e'] at hx; exact hl s off hx
      · rw [if_neg e'] at hx; exact old hx

/-- Nothing of the memory's facts has turned, and no block: only the placements have grown. -/
theorem RepM.same {C : Cx} {θ : Th} {σ : Nat → Option Nat} {F F' : FS} {w w' : World} (R : RepM P C θ σ F w) (hl : F'.loc = F.loc) (hh : F'.hp = F.hp) (hw : Chg (fun _ => False) w w') :
    RepM P C θ σ F' w' := by
  refine ⟨R.glob, R.fin, fun s cs h => ?_, fun s s' cs cs' h h' => R.dll s s' cs cs' (hl ▸ h) (hl ▸ h'), fun id x h => ?_, fun s cs id x b o c h h' => R.dlh s cs id x b o c (hl ▸ h) (hh ▸ h'),
    fun id id' x x' b o c o' c' h hx h' => R.dhh id id' x x' b o c o' c' (hh ▸ h) hx (hh ▸ h'), fun id x b o c h => R.ownok id x b o c (hh ▸ h), fun id x b o c h => R.bok id x b o c (hh ▸ h), R.chg.trans hw (fun _ _ h => h.elim),
    fun b o u e => by rw [hw.cell (World.block_lt_of_cell? w _ (R.fzc b o u e)) (fun x => x)]; exact R.fzc b o u e, fun s cs b o u h => R.fzl s cs b o u (hl ▸ h), fun id x b o c o' u h => R.fzh id x b o c o' u (hh ▸ h), R.fzn⟩
  · obtain ⟨b, arr, ty, h1, h2, h3, h4⟩ := R.loc s cs (hl ▸ h)
    exact ⟨b, arr, ty, h1, h2, by rw [hw.block b (Array.getElem?_eq_some_iff.1 h3).1 (fun x => x)]; exact h3, h4⟩
  · obtain ⟨b, o, c, h1, h0, h2⟩ := R.hp id x (hh ▸ h)
    exact ⟨b, o, c, h1, Nat.lt_of_lt_of_le h0 hw.size, h2.keep P (Th.le_refl _) hw (fun x => x)⟩

theorem FS.put_v_loc (F : FS) (d : Option Nat) (v : AV) (n : Nat) : (F.put d (Eff.v v n)).loc = F.loc := by funext s; simp [FS.put, Eff.v, lget_nil, lget_cns]
theorem FS.put_v_hp (F : FS) (d : Option Nat) (v : AV) (n : Nat) : (F.put d (Eff.v v n)).hp = F.hp := by funext s; simp [FS.put, Eff.v, hlook_nl, hlook_cns]

theorem hlt {w : World} {b : Nat} {x : Obj} (h : w.heap[b]? = some x) : b < w.heap.size := (Array.getElem?_eq_some_iff.1 h).1
theorem heap_new (w : World) (o : Obj) : (w.alloc o).heap[w.heap.size]? = some o := by
  show (w.heap.push o)[w.heap.size]? = _
  simp

/-- The world has a new block; a new slot lies in it. -/
theorem RepM.slot {C : Cx} {θ : Th} {σ : Nat → Option Nat} {F F' : FS} {w : World} {t : Nat} {cs : List AV} {arr : Array Value} {ty : TypeId} (R : RepM P C θ σ F w) (hn : F.loc t = none)
    (hl : ∀ s, F'.loc s = if t = s then some cs else F.loc s) (hh : F'.hp = F.hp) (hr : VRels θ cs arr.toList) :
    RepM P C θ (fun s => if t = s then some w.heap.size else σ s) F' (w.alloc (.cells arr ty)) := by
  have hw : Chg (fun _ => False) w (w.alloc (.cells arr ty)) := Chg.alloc _ _ _
  have sl : ∀ {s cs b}, F.loc s = some cs → σ s = some b → b < w.heap.size := fun h e => by
    obtain ⟨b, arr, ty, h1, h2, h3, h4⟩ := R.loc _ _ h
    rw [e] at h1; cases h1; exact hlt h3
  have tn : ∀ {s cs}, F.loc s = some cs → t ≠ s := fun h e => by subst e; rw [hn] at h; cases h
  refine ⟨R.glob, R.fin, fun s cs' h => ?_, fun s s' c1 c2 h h' hne => ?_, fun id x h => ?_, fun s c1 id x b o c h h' e => ?_, ?_, ?_, fun id x b o c h => R.bok id x b o c (hh ▸ h), R.chg.trans hw (fun _ _ h => h.elim),
    fun b o u e => by rw [hw.cell (World.block_lt_of_cell? w _ (R.fzc b o u e)) (fun x => x)]; exact R.fzc b o u e, fun s cs' b o u h e1 e2 => ?_, fun id x b o c o' u h => R.fzh id x b o c o' u (hh ▸ h), R.fzn⟩
  · rw [hl] at h
    by_cases e : t = s
    · rw [if_pos e] at h; cases h
      exact ⟨w.heap.size, arr, ty, by simp [e], R.chg.size, heap_new _ _, hr⟩
    · rw [if_neg e] at h
      obtain ⟨b, arr', ty', h1, h2, h3, h4⟩ := R.loc s cs' h
      exact ⟨b, arr', ty', by simp [e, h1], h2, by rw [hw.block b (hlt h3) (fun x => x)]; exact h3, h4⟩
  · rw [hl] at h h'
    by_cases e : t = s
    · rw [if_neg (fun q => hne (e.symm.trans q))] at h'
      obtain ⟨b, _, _, h1, _, h3, _⟩ := R.loc s' c2 h'
      simp only [if_pos e, if_neg (fun q => hne (e.symm.trans q)), h1]
      intro q; cases q; exact absurd (hlt h3) (by omega)
    · rw [if_neg e] at h
      by_cases e' : t = s'
      · obtain ⟨b, _, _, h1, _, h3, _⟩ := R.loc s c1 h
        simp only [if_neg e, if_pos e', h1]
        intro q; cases q; exact absurd (hlt h3) (by omega)
      · rw [if_neg e'] at h'
        simp only [if_neg e, if_neg e']
        exact R.dll s s' c1 c2 h h' hne
  · obtain ⟨b, o, c, h1, h0, h2⟩ := R.hp id x (hh ▸ h)
    exact ⟨b, o, c, h1, Nat.lt_of_lt_of_le h0 hw.size, h2.keep P (Th.le_refl _) hw (fun x => x)⟩
  · rw [hl] at h
    rw [hh] at h'
    by_cases e' : t = s
    · simp only [if_pos e']
      obtain ⟨b', o', c', q, h0, _⟩ := R.hp id x h'
      rw [e] at q; cases q
      intro q; cases q; omega
    · rw [if_neg e'] at h
      simp only [if_neg e']
      exact R.dlh s c1 id x b o c h h' e
  · intro id id' x x' b o c o' c' h hx h'
    exact R.dhh id id' x x' b o c o' c' (hh ▸ h) hx (hh ▸ h')
  · intro id x b o c h; exact R.ownok id x b o c (hh ▸ h)
  · rw [hl] at h
    by_cases e : t = s
    · simp only [if_pos e, Option.some.injEq] at e1
      have := World.block_lt_of_cell? w _ (R.fzc b o u e2)
      simp only at this; omega
    · rw [if_neg e] at h
      simp only [if_neg e] at e1
      exact R.fzl s cs' b o u h e1 e2

/-- A slot's cells are others: its block is put anew. -/
theorem RepM.slotSet {C : Cx} {θ : Th} {σ : Nat → Option Nat} {F F' : FS} {w w' : World} {t b : Nat} {cs cs0 : List AV} {arr : Array Value} {ty : TypeId} (R : RepM P C θ σ F w) (ht : F.loc t = some cs0) (hb : σ t = some b)
    (hl : ∀ s, F'.loc s = if t = s then some cs else F.loc s) (hh : F'.hp = F.hp) (hr : VRels θ cs arr.toList) (hw : Chg (· = b) w w') (hat : w'.heap[b]? = some (.cells arr ty (0, 0))) :
    RepM P C θ σ F' w' := by
  obtain ⟨b0, arr0, ty0, e0, g2, g3, g4⟩ := R.loc t cs0 ht
  rw [hb] at e0; cases e0
  have nb : ∀ {id x b' o c}, F.hp id = some x → θ id = some (b', o, c) → ¬ (b' = b) := fun h e q => by subst q; exact R.dlh t cs0 _ _ _ _ _ ht h e hb
  refine ⟨R.glob, R.fin, fun s cs' h => ?_, fun s s' c1 c2 h h' hne => ?_, fun id x h => ?_, fun s c1 id x b o c h h' e => ?_, ?_, ?_, fun id x b o c h => R.bok id x b o c (hh ▸ h), R.chg.trans hw (fun b' hb' h => by subst h; omega),
    fun b' o u e => by rw [hw.cell (World.block_lt_of_cell? w _ (R.fzc b' o u e)) (fun q => by simp only at q; subst q; exact R.fzl t cs0 _ o u ht hb e)]; exact R.fzc b' o u e, fun s cs' b' o u h e1 e2 => ?_, fun id x b o c o' u h => R.fzh id x b o c o' u (hh ▸ h), R.fzn⟩
  · rw [hl] at h
    by_cases e : t = s
    · rw [if_pos e] at h; cases h; subst e
      exact ⟨b, arr, ty, hb, g2, hat, hr⟩
    · rw [if_neg e] at h
      obtain ⟨b', arr', ty', h1, h2, h3, h4⟩ := R.loc s cs' h
      have : b ≠ b' := fun q => R.dll t s cs0 cs' ht h e (by rw [hb, h1, q])
      exact ⟨b', arr', ty', h1, h2, by rw [hw.block b' (hlt h3) (fun q => this q.symm)]; exact h3, h4⟩
  · have l1 : ∃ c, F.loc s = some c := by
      rw [hl] at h; by_cases e : t = s
      · exact ⟨cs0, e ▸ ht⟩
      · rw [if_neg e] at h; exact ⟨_, h⟩
    have l2 : ∃ c, F.loc s' = some c := by
      rw [hl] at h'; by_cases e : t = s'
      · exact ⟨cs0, e ▸ ht⟩
      · rw [if_neg e] at h'; exact ⟨_, h'⟩
    obtain ⟨x1, l1⟩ := l1
    obtain ⟨x2, l2⟩ := l2
    exact R.dll s s' x1 x2 l1 l2 hne
  · rw [hh] at h
    obtain ⟨b', o, c, h1, h0, h2⟩ := R.hp id x h
    exact ⟨b', o, c, h1, Nat.lt_of_lt_of_le h0 hw.size, h2.keep P (Th.le_refl _) hw (nb h h1)⟩
  · rw [hh] at h'
    have l1 : ∃ c, F.loc s = some c := by
      rw [hl] at h; by_cases e : t = s
      · exact ⟨cs0, e ▸ ht⟩
      · rw [if_neg e] at h; exact ⟨_, h⟩
    obtain ⟨x1, l1⟩ := l1
    exact R.dlh s x1 id x b o c l1 h' e
  · intro id id' x x' b o c o' c' h hx h'
    exact R.dhh id id' x x' b o c o' c' (hh ▸ h) hx (hh ▸ h')
  · intro id x b o c h; exact R.ownok id x b o c (hh ▸ h)
  · rw [hl] at h
    by_cases e : t = s
    · exact R.fzl s cs0 b' o u (e ▸ ht) e1 e2
    · rw [if_neg e] at h; exact R.fzl s cs' b' o u h e1 e2

/-- The world has a new block; a new numbered block lies in it. -/
theorem RepM.new {C : Cx} {θ : Th} {σ : Nat → Option Nat} {F F' : FS} {w : World} {n c : Nat} {x : ABlk} {arr : Array Value} (R : RepM P C θ σ F w) (hn : θ n = none)
    (hl : F'.loc = F.loc) (hh : ∀ id, F'.hp id = if n = id then some x else F.hp id) (hx : x.own = true)
    (hb : x.cells.length ≤ arr.size ∧ VRels θ x.cells (arr.toList.take x.cells.length) ∧ (if x.opn = true then arr.size = c * P.cellsOf x.ty ∧ c ≤ maxLen else arr.size = x.cells.length)) :
    RepM P C (θ.upd n (w.heap.size, 0, c)) σ F' (w.alloc (.cells arr x.ty)) := by
  have hw : Chg (fun _ => False) w (w.alloc (.cells arr x.ty)) := Chg.alloc _ _ _
  have hθ : Th.le θ (θ.upd n (w.heap.size, 0, c)) := ⟨fun id t e => (by
    by_cases q : n = id
    · subst q; rw [hn] at e; cases e
    · simp [Th.upd, q, e]), fun _ _ _ e => e⟩
  have nn : ∀ {id x}, F.hp id = some x → n ≠ id := fun h e => by
    subst e
    obtain ⟨b, o, c, h1, _⟩ := R.hp _ _ h
    rw [hn] at h1; cases h1
  have lt : ∀ {id x b o c}, F.hp id = some x → θ id = some (b, o, c) → b < w.heap.size := fun h e => by
    obtain ⟨b, o, c, h1, h0, _⟩ := R.hp _ _ h
    rw [e] at h1; cases h1; exact h0
  have fin : ∃ B, ∀ id, B ≤ id → (θ.upd n (w.heap.size, 0, c)) id = none := by
    obtain ⟨B, hB⟩ := R.fin
    exact ⟨B + n + 1, fun id hid => by simp only [Th.upd]; rw [if_neg (by omega)]; exact hB id (by omega)⟩
  refine ⟨fun g hg => hθ _ _ (R.glob g hg), fin, fun s cs' h => ?_, fun s s' c1 c2 h h' hne => R.dll s s' c1 c2 (hl ▸ h) (hl ▸ h') hne, fun id y h => ?_, fun s c1 id y b o c' h h' e => ?_, ?_, ?_, ?_, R.chg.trans hw (fun _ _ h => h.elim),
    fun b o u e => by rw [hw.cell (World.block_lt_of_cell? w _ (R.fzc b o u e)) (fun x => x)]; exact R.fzc b o u e, fun s cs b o u h => R.fzl s cs b o u (hl ▸ h), fun id y b o c1 o' u h hy e1 e2 => ?_, R.fzn⟩
  · obtain ⟨b, arr', ty', h1, h2, h3, h4⟩ := R.loc s cs' (hl ▸ h)
    exact ⟨b, arr', ty', h1, h2, by rw [hw.block b (hlt h3) (fun x => x)]; exact h3, VRels.mono hθ _ _ h4⟩
  · rw [hh] at h
    by_cases e : n = id
    · rw [if_pos e] at h; cases h
      refine ⟨w.heap.size, 0, c, by simp [Th.upd, e], by simp, ?_⟩
      unfold BRel; rw [if_pos hx]
      exact ⟨rfl, arr, heap_new _ _, hb.1, VRels.mono hθ _ _ hb.2.1, hb.2.2⟩
    · rw [if_neg e] at h
      obtain ⟨b, o, c', h1, h0, h2⟩ := R.hp id y h
      exact ⟨b, o, c', hθ _ _ h1, Nat.lt_of_lt_of_le h0 hw.size, h2.keep P hθ hw (fun x => x)⟩
  · rw [hl] at h
    rw [hh] at h'
    by_cases e' : n = id
    · simp only [Th.upd, if_pos e'] at e
      cases e
      obtain ⟨b, _, _, h1, _, h3, _⟩ := R.loc s c1 h
      intro q; rw [h1] at q; cases q; exact absurd (hlt h3) (by omega)
    · rw [if_neg e'] at h'
      simp only [Th.upd, if_neg e'] at e
      exact R.dlh s c1 id y b o c' h h' e
  · intro id id' y y' b o c1 o' c' h hy h' hne e e'
    rw [hh] at h h'
    by_cases q : n = id
    · simp only [Th.upd, if_pos q] at e; cases e
      have q' : ¬ n = id' := fun z => hne (q.symm.trans z)
      rw [if_neg q'] at h'
      simp only [Th.upd, if_neg q'] at e'
      exact absurd (lt h' e') (by omega)
    · rw [if_neg q] at h
      simp only [Th.upd, if_neg q] at e
      by_cases q' : n = id'
      · simp only [Th.upd, if_pos q'] at e'; cases e'
        exact absurd (lt h e) (by omega)
      · rw [if_neg q'] at h'
        simp only [Th.upd, if_neg q'] at e'
        exact R.dhh id id' y y' b o c1 o' c' h hy h' hne e e'
  · intro id y b o c1 h hy hf e
    rw [hh] at h
    by_cases q : n = id
    · simp only [Th.upd, if_pos q] at e; cases e
      exact .inr R.chg.size
    · rw [if_neg q] at h
      simp only [Th.upd, if_neg q] at e
      exact R.ownok id y b o c1 h hy hf e
  · intro id y b o c1 h e
    rw [hh] at h
    by_cases q : n = id
    · simp only [Th.upd, if_pos q] at e; cases e
      exact .inr R.chg.size
    · rw [if_neg q] at h
      simp only [Th.upd, if_neg q] at e
      exact R.bok id y b o c1 h e
  · rw [hh] at h
    by_cases q : n = id
    · simp only [Th.upd, if_pos q] at e1; cases e1
      have := World.block_lt_of_cell? w _ (R.fzc _ o' u e2)
      simp only at this; omega
    · rw [if_neg q] at h
      simp only [Th.upd, if_neg q] at e1
      exact R.fzh id y b o c1 o' u h hy e1 e2

/-- A block of the call's own holds other cells. -/
theorem RepM.set {C : Cx} {θ : Th} {σ : Nat → Option Nat} {F F' : FS} {w w' : World} {n b o c : Nat} {x x' : ABlk} {arr : Array Value} (R : RepM P C θ σ F w) (h0 : F.hp n = some x) (hx : x.own = true) (hf : C.fl ≤ n)
    (he : θ n = some (b, o, c)) (hl : F'.loc = F.loc) (hh : ∀ id, F'.hp id = if n = id then some x' else F.hp id) (hx' : x'.own = true) (hty : x'.ty = x.ty)
    (hb : x'.cells.length ≤ arr.size ∧ VRels θ x'.cells (arr.toList.take x'.cells.length) ∧ (if x'.opn = true then arr.size = c * P.cellsOf x'.ty ∧ c ≤ maxLen else arr.size = x'.cells.length)) (hw : Chg (· = b) w w') (hat : w'.heap[b]? = some (.cells arr x'.ty (0, 0))) :
    RepM P C θ σ F' w' := by
  obtain ⟨b0, o0, c0, e0, g0, g1⟩ := R.hp n x h0
  rw [he] at e0; cases e0
  unfold BRel at g1; rw [if_pos hx] at g1
  obtain ⟨rfl, arr0, g2, _⟩ := g1
  have ex : ∀ {id y}, F'.hp id = some y → ∃ z, F.hp id = some z ∧ (n ≠ id → z = y) := fun {id y} h => by
    rw [hh] at h
    by_cases e : n = id
    · exact ⟨x, e ▸ h0, fun q => absurd e q⟩
    · rw [if_neg e] at h; exact ⟨y, h, fun _ => rfl⟩
  refine ⟨R.glob, R.fin, fun s cs' h => ?_, fun s s' c1 c2 h h' hne => R.dll s s' c1 c2 (hl ▸ h) (hl ▸ h') hne, fun id y h => ?_, fun s c1 id y b o c' h h' e => ?_, ?_, ?_, fun id y b o c1 h e => by
    obtain ⟨z, hz, _⟩ := ex h
    exact R.bok id z b o c1 hz e, R.chg.trans hw (fun b' hb' h => by
    subst h
    rcases R.ownok n x _ _ _ h0 hx hf he with q | q
    · exact q
    · omega), fun b' o u e => by rw [hw.cell (World.block_lt_of_cell? w _ (R.fzc b' o u e)) (fun q => by simp only at q; subst q; exact R.fzh n x _ _ c o u h0 hx he e)]; exact R.fzc b' o u e,
    fun s cs b o u h => R.fzl s cs b o u (hl ▸ h), fun id y b o c1 o' u h hy e1 e2 => (by
      obtain ⟨z, hz, ez⟩ := ex h
      refine R.fzh id z b o c1 o' u hz ?_ e1 e2
      by_cases q : n = id
      · subst q; rw [h0] at hz; cases hz; exact hx
      · rw [ez q]; exact hy), R.fzn⟩
  · obtain ⟨b', arr', ty', h1, h2, h3, h4⟩ := R.loc s cs' (hl ▸ h)
    have : b ≠ b' := fun q => R.dlh s cs' n x b 0 c (hl ▸ h) h0 he (by rw [h1, q])
    exact ⟨b', arr', ty', h1, h2, by rw [hw.block b' (hlt h3) (fun q => this q.symm)]; exact h3, h4⟩
  · rw [hh] at h
    by_cases e : n = id
    · rw [if_pos e] at h; cases h
      refine ⟨b, 0, c, e ▸ he, Nat.lt_of_lt_of_le g0 hw.size, ?_⟩
      unfold BRel; rw [if_pos hx']
      exact ⟨rfl, arr, hat, hb⟩
    · rw [if_neg e] at h
      obtain ⟨b', o', c', h1, h2, h3⟩ := R.hp id y h
      exact ⟨b', o', c', h1, Nat.lt_of_lt_of_le h2 hw.size, h3.keep P (Th.le_refl _) hw (fun q => by subst q; exact R.dhh n id x y _ _ _ _ _ h0 hx h e he h1)⟩
  · obtain ⟨z, hz, _⟩ := ex h'
    exact R.dlh s c1 id z b o c' (hl ▸ h) hz e
  · intro id id' y y' b o c1 o' c' h hy h' hne e e'
    obtain ⟨z, hz, ez⟩ := ex h
    obtain ⟨z', hz', _⟩ := ex h'
    refine R.dhh id id' z z' b o c1 o' c' hz ?_ hz' hne e e'
    by_cases q : n = id
    · subst q; rw [h0] at hz; cases hz; exact hx
    · rw [ez q]; exact hy
  · intro id y b o c1 h hy hf' e
    obtain ⟨z, hz, ez⟩ := ex h
    refine R.ownok id z b o c1 hz ?_ hf' e
    by_cases q : n = id
    · subst q; rw [h0] at hz; cases hz; exact hx
    · rw [ez q]; exact hy

/-- A block is forgotten. -/
theorem RepM.forget {C : Cx} {θ : Th} {σ : Nat → Option Nat} {F F' : FS} {w : World} (R : RepM P C θ σ F w) (hl : F'.loc = F.loc) (hh : ∀ id x, F'.hp id = some x → F.hp id = some x) : RepM P C θ σ F' w :=
  ⟨R.glob, R.fin, fun s cs h => R.loc s cs (hl ▸ h), fun s s' c1 c2 h h' => R.dll s s' c1 c2 (hl ▸ h) (hl ▸ h'), fun id x h => R.hp id x (hh id x h), fun s c1 id x b o c h h' => R.dlh s c1 id x b o c (hl ▸ h) (hh id x h'),
    fun id id' x x' b o c o' c' h hx h' => R.dhh id id' x x' b o c o' c' (hh id x h) hx (hh id' x' h'), fun id x b o c h => R.ownok id x b o c (hh id x h), fun id x b o c h => R.bok id x b o c (hh id x h), R.chg,
    R.fzc, fun s cs b o u h => R.fzl s cs b o u (hl ▸ h), fun id x b o c o' u h => R.fzh id x b o c o' u (hh id x h), R.fzn⟩

/-- A block of the call's own gets another number. -/
theorem RepM.renumber {C : Cx} {θ : Th} {σ : Nat → Option Nat} {F F' : FS} {w : World} {n m b c : Nat} {x : ABlk} (R : RepM P C θ σ F w) (h0 : F.hp n = some x) (hx : x.own = true) (hf : C.fl ≤ n) (he : θ n = some (b, 0, c))
    (hm : θ m = none) (hl : F'.loc = F.loc) (hh : ∀ id, F'.hp id = if m = id then some x else if n = id then none else F.hp id) :
    RepM P C (θ.upd m (b, 0, c)) σ F' w := by
  have hθ : Th.le θ (θ.upd m (b, 0, c)) := ⟨fun id t e => (by
    by_cases q : m = id
    · subst q; rw [hm] at e; cases e
    · simp [Th.upd, q, e]), fun _ _ _ e => e⟩
  have hmn : m ≠ n := fun e => by subst e; rw [hm] at he; cases he
  have old : ∀ {id y}, F'.hp id = some y → m ≠ id → n ≠ id ∧ F.hp id = some y := fun {id y} h e => by
    rw [hh, if_neg e] at h
    by_cases q : n = id
    · rw [if_pos q] at h; cases h
    · rw [if_neg q] at h; exact ⟨q, h⟩
  have fin : ∃ B, ∀ id, B ≤ id → (θ.upd m (b, 0, c)) id = none := by
    obtain ⟨B, hB⟩ := R.fin
    exact ⟨B + m + 1, fun id hid => by simp only [Th.upd]; rw [if_neg (by omega)]; exact hB id (by omega)⟩
  refine ⟨fun g hg => hθ _ _ (R.glob g hg), fin, fun s cs' h => ?_, fun s s' c1 c2 h h' hne => R.dll s s' c1 c2 (hl ▸ h) (hl ▸ h') hne, fun id y h => ?_, fun s c1 id y b' o c' h h' e => ?_, ?_, ?_, ?_, R.chg,
    R.fzc, fun s cs b o u h => R.fzl s cs b o u (hl ▸ h), fun id y b' o c1 o' u h hy e1 e2 => ?_, R.fzn⟩
  · obtain ⟨b', arr', ty', h1, h2, h3, h4⟩ := R.loc s cs' (hl ▸ h)
    exact ⟨b', arr', ty', h1, h2, h3, VRels.mono hθ _ _ h4⟩
  · by_cases e : m = id
    · rw [hh, if_pos e] at h; cases h
      obtain ⟨b', o', c', h1, h2, h3⟩ := R.hp n x h0
      rw [he] at h1; cases h1
      exact ⟨b, 0, c, by simp [Th.upd, e], h2, h3.keep P hθ (Chg.refl (fun _ => False) w) (fun x => x)⟩
    · obtain ⟨_, h'⟩ := old h e
      obtain ⟨b', o', c', h1, h2, h3⟩ := R.hp id y h'
      exact ⟨b', o', c', hθ _ _ h1, h2, h3.keep P hθ (Chg.refl (fun _ => False) w) (fun x => x)⟩
  · by_cases q : m = id
    · simp only [Th.upd, if_pos q] at e; cases e
      exact R.dlh s c1 n x b 0 c (hl ▸ h) h0 he
    · simp only [Th.upd, if_neg q] at e
      exact R.dlh s c1 id y b' o c' (hl ▸ h) (old h' q).2 e
  · intro id id' y y' b' o c1 o' c' h hy h' hne e e'
    by_cases q : m = id
    · simp only [Th.upd, if_pos q] at e; cases e
      have q' : m ≠ id' := fun z => hne (q.symm.trans z)
      simp only [Th.upd, if_neg q'] at e'
      obtain ⟨q2, h2⟩ := old h' q'
      exact R.dhh n id' x y' b 0 c o' c' h0 hx h2 q2 he e'
    · simp only [Th.upd, if_neg q] at e
      obtain ⟨q2, h2⟩ := old h q
      by_cases q' : m = id'
      · simp only [Th.upd, if_pos q'] at e'; cases e'
        exact R.dhh n id x y _ 0 c o c1 h0 hx h2 q2 he e
      · simp only [Th.upd, if_neg q'] at e'
        exact R.dhh id id' y y' b' o c1 o' c' h2 hy (old h' q').2 hne e e'
  · intro id y b' o c1 h hy hf' e
    by_cases q : m = id
    · simp only [Th.upd, if_pos q] at e; cases e
      exact R.ownok n x b 0 c h0 hx hf he
    · simp only [Th.upd, if_neg q] at e
      exact R.ownok id y b' o c1 (old h q).2 hy hf' e
  · intro id y b' o c1 h e
    by_cases q : m = id
    · simp only [Th.upd, if_pos q] at e; cases e
      exact R.bok n x b 0 c h0 he
    · simp only [Th.upd, if_neg q] at e
      exact R.bok id y b' o c1 (old h q).2 e
  · by_cases q : m = id
    · simp only [Th.upd, if_pos q] at e1; cases e1
      exact R.fzh n x _ 0 c o' u h0 hx he e2
    · simp only [Th.upd, if_neg q] at e1
      exact R.fzh id y b' o c1 o' u (old h q).2 hy e1 e2

/-- What is frozen has grown. -/
theorem RepM.grow {C : Cx} {θ : Th} {σ : Nat → Option Nat} {F F' : FS} {w w' : World} {φ : Nat → Nat → Option Value} (R : RepM P C θ σ F w) (hl : F'.loc = F.loc) (hh : F'.hp = F.hp) (hw : Chg (fun _ => False) w w')
    (hf : Th.fle θ ⟨θ.pl, φ⟩) (hn : ∀ b o u, φ b o = some u → θ.fz b o = some u ∨ (w.heap.size ≤ b ∧ w'.cell? ⟨b, o, none⟩ = some u)) : RepM P C ⟨θ.pl, φ⟩ σ F' w' := by
  have hθ : Th.le θ ⟨θ.pl, φ⟩ := ⟨fun _ _ e => e, hf⟩
  refine ⟨R.glob, R.fin, fun s cs h => ?_, fun s s' cs cs' h h' => R.dll s s' cs cs' (hl ▸ h) (hl ▸ h'), fun id x h => ?_, fun s cs id x b o c h h' => R.dlh s cs id x b o c (hl ▸ h) (hh ▸ h'),
    fun id id' x x' b o c o' c' h hx h' => R.dhh id id' x x' b o c o' c' (hh ▸ h) hx (hh ▸ h'), fun id x b o c h => R.ownok id x b o c (hh ▸ h), fun id x b o c h => R.bok id x b o c (hh ▸ h), R.chg.trans hw (fun _ _ h => h.elim),
    fun b o u e => ?_, fun s cs b o u h e1 e2 => ?_, fun id x b o c o' u h hx e1 e2 => ?_, fun b o u e => ?_⟩
  · obtain ⟨b, arr, ty, h1, h2, h3, h4⟩ := R.loc s cs (hl ▸ h)
    exact ⟨b, arr, ty, h1, h2, by rw [hw.block b (Array.getElem?_eq_some_iff.1 h3).1 (fun x => x)]; exact h3, VRels.mono hθ _ _ h4⟩
  · obtain ⟨b, o, c, h1, h0, h2⟩ := R.hp id x (hh ▸ h)
    exact ⟨b, o, c, h1, Nat.lt_of_lt_of_le h0 hw.size, h2.keep P hθ hw (fun x => x)⟩
  · rcases hn b o u e with q | ⟨_, q⟩
    · rw [hw.cell (World.block_lt_of_cell? w _ (R.fzc b o u q)) (fun x => x)]; exact R.fzc b o u q
    · exact q
  · rcases hn b o u e2 with q | ⟨q, _⟩
    · exact R.fzl s cs b o u (hl ▸ h) e1 q
    · obtain ⟨b', arr, ty, h1, h2, h3, h4⟩ := R.loc s cs (hl ▸ h)
      rw [e1] at h1; cases h1
      have := (Array.getElem?_eq_some_iff.1 h3).1
      omega
  · rcases hn b o' u e2 with q | ⟨q, _⟩
    · exact R.fzh id x b o c o' u (hh ▸ h) hx e1 q
    · obtain ⟨b', o1, c1, h1, h0, h2⟩ := R.hp id x (hh ▸ h)
      have e1' : θ.pl id = some (b, o, c) := e1
      rw [e1'] at h1; cases h1
      omega
  · rcases hn b o u e with q | ⟨q, _⟩
    · exact R.fzn b o u q
    · exact .inr (Nat.le_trans R.chg.size q)

end
end Go.Proofs.YtogkkamlmklpkaaDoor.Ab
