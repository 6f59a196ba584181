/- Regions that draw their order: whatever the order, the same facts. No condition: lemmas only. -/
import Derived.Test.YtogkkamlmklpkaaDoorA12
set_option linter.unusedVariables false
set_option linter.unusedSimpArgs false
namespace Go.Proofs.YtogkkamlmklpkaaDoor.Ab
open Go

/-! ### Changes that are listed -/
def upds {β : Type} (upd : Nat → Option β) (L : Nat → Bool) (x0 : β) : Nat → β
  | 0 => x0
  | m + 1 => if L m = true then (upd m).getD (upds upd L x0 m) else upds upd L x0 m

section
variable {β : Type} {upd : Nat → Option β} {L : Nat → Bool} {x0 : β}
theorem upds_late {m : Nat} : ∀ {n : Nat}, m ≤ n → (∀ j, m ≤ j → j < n → L j = true → upd j = none) → upds upd L x0 n = upds upd L x0 m
  | 0, h, _ => by have : m = 0 := by omega
                  rw [this]
  | n + 1, h, k => by
    rcases Nat.lt_or_ge n m with q | q
    · have : m = n + 1 := by omega
      rw [this]
    · simp only [upds]
      have ih := upds_late (n := n) q (fun j h1 h2 => k j h1 (by omega))
      split
      · rename_i hl; rw [k n q (by omega) hl]; simpa using ih
      · exact ih
theorem upds_early : ∀ {i : Nat}, (∀ j, j < i → L j = false → upd j = none) → upds upd L x0 i = upds upd (fun _ => true) x0 i
  | 0, _ => rfl
  | i + 1, k => by
    have ih := upds_early (i := i) (fun j h => k j (by omega))
    simp only [upds, if_true, ih]
    split
    · rfl
    · rename_i hl
      rw [k i (by omega) (by simpa using hl)]; rfl
def ins (L : Nat → Bool) (i : Nat) (j : Nat) : Bool := if j = i then true else L j
theorem upds_below {L' : Nat → Bool} : ∀ {i : Nat}, (∀ j, j < i → L j = L' j) → upds upd L x0 i = upds upd L' x0 i
  | 0, _ => rfl
  | i + 1, k => by
    have ih := upds_below (i := i) (fun j h => k j (by omega))
    simp only [upds, ih, k i (by omega)]
theorem upds_insert {i : Nat} (hl : L i = false) : ∀ {n : Nat}, i < n → (∀ j, i < j → j < n → L j = true → upd j = none ∨ upd i = none) → upds upd (ins L i) x0 n = (upd i).getD (upds upd L x0 n)
  | 0, h, _ => by omega
  | n + 1, h, k => by
    by_cases q : n = i
    · subst q
      simp only [upds, ins, if_true, hl, Bool.false_eq_true, if_false]
      congr 1
      exact upds_below fun j hj => by simp [ins, Nat.ne_of_lt hj]
    · have ih := upds_insert (i := i) hl (n := n) (by omega) (fun j h1 h2 => k j h1 (by omega))
      have e : ins L i n = L n := by simp [ins, q]
      simp only [upds, e]
      split
      · rename_i hln
        rw [ih]
        rcases k n (by omega) (by omega) hln with z | z
        · rw [z]; rfl
        · rw [z]; rfl
      · exact ih
end

/-! ### A region's records -/
def updT (xs : List Rec) (t : Nat) (j : Nat) : Option (Option AV) := match xs[j]? with
  | some x => if x.dst = some t then some x.eff.val else none
  | none => none
noncomputable def updL (xs : List Rec) (s : Nat) (j : Nat) : Option (Option (List AV)) := match xs[j]? with
  | some x => (lget x.eff.loc s).map some
  | none => none
noncomputable def updH (xs : List Rec) (id : Nat) (j : Nat) : Option (Option ABlk) := match xs[j]? with
  | some x => hlook x.eff.hp id
  | none => none
noncomputable def FL (F : FS) (xs : List Rec) (L : Nat → Bool) (n : Nat) : FS := ⟨fun t => upds (updT xs t) L (F.tmp t) n, fun s => upds (updL xs s) L (F.loc s) n, fun id => upds (updH xs id) L (F.hp id) n⟩

theorem put_none {F : FS} {d : Option Nat} {e : Eff} (ha : e.all = none) : F.put d e = ⟨fun t => (if d = some t then some e.val else none : Option (Option AV)).getD (F.tmp t), fun s => ((lget e.loc s).map some).getD (F.loc s), fun id => (hlook e.hp id).getD (F.hp id)⟩ := by
  unfold FS.put
  congr 1
  · funext t; split <;> rfl
  · funext s; cases lget e.loc s <;> rfl
  · funext id; rw [ha]; simp only; cases hlook e.hp id <;> rfl

noncomputable def puts (s : AS) : List Rec → AS
  | [] => s
  | x :: xs => puts (s.put x.dst x.eff) xs
theorem puts_append (s : AS) (a b : List Rec) : puts s (a ++ b) = puts (puts s a) b := by
  induction a generalizing s with
  | nil => rfl
  | cons x a ih => simp only [List.cons_append, puts]; exact ih _
theorem puts_take_succ {s : AS} {xs : List Rec} {i : Nat} {x : Rec} (h : xs[i]? = some x) : puts s (xs.take (i + 1)) = (puts s (xs.take i)).put x.dst x.eff := by
  have hlt := (List.getElem?_eq_some_iff.1 h).1
  rw [List.take_succ_eq_append_getElem hlt, puts_append, (List.getElem?_eq_some_iff.1 h).2]
  rfl

theorem FL_all {s : AS} {xs : List Rec} (ha : ∀ (j : Nat) (x : Rec), xs[j]? = some x → x.eff.all = none) : ∀ i, i ≤ xs.length → (puts s (xs.take i)).fs = FL s.fs xs (fun _ => true) i
  | 0, _ => by simp [puts, FL, upds]
  | i + 1, h => by
    have hlt : i < xs.length := by omega
    have hx : xs[i]? = some xs[i] := List.getElem?_eq_getElem hlt
    rw [puts_take_succ hx, fs_put, FL_all ha i (by omega), put_none (ha i _ hx)]
    unfold FL
    congr 1
    · funext t; simp only [upds, updT, hx, if_true]
    · funext t; simp only [upds, updL, hx, if_true]
    · funext t; simp only [upds, updH, hx, if_true]

theorem lget_mem {l : List (Nat × List AV)} {t : Nat} (h : lget l t ≠ none) : t ∈ l.map (·.1) := by
  induction l with
  | nil => simp [lget_nil, lget_cns] at h
  | cons p r ih =>
    obtain ⟨k, x⟩ := p
    rw [lget_cons] at h
    simp only [List.map_cons, List.mem_cons]
    by_cases e : k = t
    · exact .inl e.symm
    · rw [if_neg e] at h; exact .inr (ih h)
theorem hlook_mem {l : List (Nat × Option ABlk)} {t : Nat} (h : hlook l t ≠ none) : t ∈ l.map (·.1) := by
  induction l with
  | nil => simp [hlook_nl, hlook_cns] at h
  | cons p r ih =>
    obtain ⟨k, x⟩ := p
    simp only [hlook_nl, hlook_cns] at h
    simp only [List.map_cons, List.mem_cons]
    by_cases e : k = t
    · exact .inl e.symm
    · rw [beq_false.2 e] at h; exact .inr (ih h)

/-- What two operations that may go in either order have in common: nothing. -/
structure Pair (li lj : List Nat) (xi xj : Rec) : Prop where
  t1 : ∀ d, xj.dst = some d → d ∉ li ∧ xi.dst ≠ some d
  t2 : ∀ d, xi.dst = some d → d ∉ lj
  l1 : ∀ s, s ∈ xj.wl → s ∉ xi.foot.locs ∧ s ∉ xi.wl
  l2 : ∀ s, s ∈ xi.wl → s ∉ xj.foot.locs
  h1 : ∀ id, id ∈ xj.wh → id ∉ xi.foot.hps ∧ id ∉ xi.wh
  h2 : ∀ id, id ∈ xi.wh → id ∉ xj.foot.hps
  m1 : ∀ n hid, xi.foot.lim = some (n, hid) → ∀ id, id ∈ xj.wh → id ∈ hid
  m2 : ∀ n hid, xj.foot.lim = some (n, hid) → ∀ id, id ∈ xi.wh → id < n → id ∈ hid

def AgD (F Fi : FS) (look : List Nat) (f : Foot) : Prop :=
  (∀ t, t ∈ look → F.tmp t = Fi.tmp t) ∧ (∀ s, s ∈ f.locs → F.loc s = Fi.loc s) ∧ (∀ id, id ∈ f.hps → F.hp id = Fi.hp id) ∧
    ∀ n hid, f.lim = some (n, hid) → ∀ id x, id ∉ hid → Fi.hp id = some x → F.hp id = some x

/-- What an operation that is next does. -/
def StepAt (P : Program) (C : Cx) (ops : Array Oper) (Q : Exit → Act → World → Prop) (i : Nat) (x : Rec) (look : List Nat) (nlo : Nat) (Fi : FS) : Prop :=
  ∀ (F : FS) (θ : Th) (σ : Nat → Option Nat) (a : Act) (w : World), Rep P C θ σ F a w → AgD F Fi look x.foot → Free θ nlo x.eff.n → ∀ K : Act → World → Prop,
    (∀ θ' σ' a' w', Th.ext θ θ' nlo x.eff.n → Rep P C θ' σ' (F.put x.dst x.eff) a' w' → K a' w') → wpOp P ops Q i K a w

/-- A region's facts. -/
structure Drawn (P : Program) (C : Cx) (ops : Array Oper) (Q : Exit → Act → World → Prop) (s0 : AS) (xs : List Rec) (lk : Nat → List Nat) (bef : Nat → Nat → Bool) : Prop where
  len : xs.length = ops.size
  all : ∀ (i : Nat) (x : Rec), xs[i]? = some x → x.eff.all = none
  num : ∀ (i : Nat) (x : Rec), xs[i]? = some x → (puts s0 (xs.take i)).n ≤ x.eff.n
  step : ∀ (i : Nat) (x : Rec), xs[i]? = some x → StepAt P C ops Q i x (lk i) (puts s0 (xs.take i)).n (puts s0 (xs.take i)).fs
  low : ∀ (i : Nat) (x : Rec), xs[i]? = some x → HB (puts s0 (xs.take i)).h (puts s0 (xs.take i)).n
  lim : ∀ (i : Nat) (x : Rec) (n : Nat) (hid : List Nat), xs[i]? = some x → x.foot.lim = some (n, hid) → n = (puts s0 (xs.take i)).n
  pair : ∀ (i j : Nat) (xi xj : Rec), j < i → xs[i]? = some xi → xs[j]? = some xj → bef i j = true ∨ Pair (lk i) (lk j) xi xj
  bind : ∀ (i j : Nat), bef i j = true → ∃ o, ops[i]? = some o ∧ ∃ e ∈ o.after, Region.binds .any e = true ∧ (e.on = j ∨ bef e.on j = true)
  back : ∀ (i : Nat) (o : Oper), ops[i]? = some o → ∀ e ∈ o.after, Region.binds .any e = true → e.on < i

def unl (listed : Array Bool) : Nat → Nat
  | 0 => 0
  | m + 1 => unl listed m + (if listed.getD m false = true then 0 else 1)
theorem getD_ins {listed : Array Bool} {i : Nat} (hi : i < listed.size) (j : Nat) : (listed.setIfInBounds i true).getD j false = ins (fun j => listed.getD j false) i j := by
  unfold ins
  by_cases e : j = i
  · subst e; rw [if_pos rfl]; simp [hi]
  · rw [if_neg e, getD_set_ne false (Ne.symm e)]
theorem unl_set {listed : Array Bool} {i : Nat} (hi : i < listed.size) (hl : listed.getD i false = false) : ∀ m, (i < m → unl (listed.setIfInBounds i true) m + 1 = unl listed m) ∧ (m ≤ i → unl (listed.setIfInBounds i true) m = unl listed m)
  | 0 => ⟨fun h => by omega, fun _ => rfl⟩
  | m + 1 => by
    obtain ⟨h1, h2⟩ := unl_set hi hl m
    simp only [unl, getD_ins hi]
    refine ⟨fun h => ?_, fun h => ?_⟩
    · by_cases e : m = i
      · subst e
        have := h2 (Nat.le_refl _)
        simp only [ins, if_true, hl, Bool.false_eq_true, if_false]
        omega
      · have := h1 (by omega)
        have e2 : ins (fun j => listed.getD j false) i m = listed.getD m false := by simp [ins, e]
        rw [e2]; omega
    · have := h2 (by omega)
      have e2 : ins (fun j => listed.getD j false) i m = listed.getD m false := by simp [ins, show ¬ m = i by omega]
      rw [e2]; omega
theorem unl_none {listed : Array Bool} : ∀ m, unl listed m = 0 → ∀ j, j < m → listed.getD j false = true
  | 0, _, j, h => by omega
  | m + 1, h, j, hj => by
    simp only [unl] at h
    by_cases e : j = m
    · subst e
      split at h
      · assumption
      · omega
    · exact unl_none m (by omega) j (by omega)

section
variable {P : Program} {C : Cx} {ops : Array Oper} {Q : Exit → Act → World → Prop} {s0 : AS} {xs : List Rec} {lk : Nat → List Nat} {bef : Nat → Nat → Bool}

noncomputable def nn (s0 : AS) (xs : List Rec) (i : Nat) : Nat := (puts s0 (xs.take i)).n
theorem Drawn.nn_le (D : Drawn P C ops Q s0 xs lk bef) {i : Nat} : ∀ {j : Nat}, i ≤ j → j ≤ xs.length → nn s0 xs i ≤ nn s0 xs j
  | 0, h, _ => by have : i = 0 := by omega
                  rw [this]; exact Nat.le_refl _
  | j + 1, h, hl => by
    by_cases e : i = j + 1
    · rw [e]; exact Nat.le_refl _
    · have ih := D.nn_le (i := i) (j := j) (by omega) (by omega)
      have hx : xs[j]? = some xs[j] := List.getElem?_eq_getElem (by omega)
      have h1 := D.num j _ hx
      have : nn s0 xs (j + 1) = xs[j].eff.n := by unfold nn; rw [puts_take_succ hx]; rfl
      unfold nn at *; omega

/-- The listed ones are so that whatever has to be ahead of a listed one is listed. -/
def Closed (ops : Array Oper) (L : Nat → Bool) : Prop := ∀ (i : Nat) (o : Oper), ops[i]? = some o → L i = true → ∀ e ∈ o.after, Region.binds .any e = true → L e.on = true
theorem Drawn.before (D : Drawn P C ops Q s0 xs lk bef) {L : Nat → Bool} (hc : Closed ops L) : ∀ (i : Nat) (j : Nat), (∀ o, ops[i]? = some o → ∀ e ∈ o.after, Region.binds .any e = true → L e.on = true) → bef i j = true → L j = true := by
  intro i
  induction i using Nat.strongRecOn with
  | _ i ih =>
    intro j h hb
    obtain ⟨o, ho, e, he, hbd, hj⟩ := D.bind i j hb
    have hl := h o ho e he hbd
    rcases hj with hj | hj
    · rw [← hj]; exact hl
    · exact ih e.on (D.back i o ho e he hbd) j (fun o' ho' => hc e.on o' ho' hl) hj

theorem Drawn.agree (D : Drawn P C ops Q s0 xs lk bef) {L : Nat → Bool} (hc : Closed ops L) {i : Nat} {x : Rec} {o : Oper} (hx : xs[i]? = some x) (ho : ops[i]? = some o) (hl : L i = false)
    (hr : ∀ e ∈ o.after, Region.binds .any e = true → L e.on = true) : AgD (FL s0.fs xs L xs.length) (puts s0 (xs.take i)).fs (lk i) x.foot := by
  have hlt := (List.getElem?_eq_some_iff.1 hx).1
  -- what is listed late is apart from it, what is not listed early too
  have late : ∀ (j : Nat) (xj : Rec), i ≤ j → L j = true → xs[j]? = some xj → Pair (lk j) (lk i) xj x := fun j xj h1 h2 h3 => by
    have hne : j ≠ i := fun e => by subst e; rw [hl] at h2; cases h2
    rcases D.pair j i xj x (by omega) h3 hx with q | q
    · have hj : j < ops.size := by rw [← D.len]; exact (List.getElem?_eq_some_iff.1 h3).1
      have := D.before hc j i (fun o' ho' => hc j o' ho' h2) q
      rw [hl] at this; cases this
    · exact q
  have early : ∀ (j : Nat) (xj : Rec), j < i → L j = false → xs[j]? = some xj → Pair (lk i) (lk j) x xj := fun j xj h1 h2 h3 => by
    rcases D.pair i j x xj h1 hx h3 with q | q
    · have := D.before hc i j (fun o' ho' => by rw [ho] at ho'; cases ho'; exact hr) q
      rw [h2] at this; cases this
    · exact q
  rw [FL_all D.all i (by omega)]
  refine ⟨fun t ht => ?_, fun t ht => ?_, fun t ht => ?_, fun n hid hlim id y hn hy => ?_⟩
  · show upds _ _ _ _ = upds _ _ _ _
    rw [upds_late (m := i) (by omega), upds_early]
    · intro j h1 h2
      unfold updT
      split
      · rename_i xj hxj
        rw [if_neg]
        intro e; exact ((early j xj h1 h2 hxj).t1 t e).1 ht
      · rfl
    · intro j h1 h2 h3
      unfold updT
      split
      · rename_i xj hxj
        rw [if_neg]
        intro e; exact (late j xj h1 h3 hxj).t2 t e ht
      · rfl
  · show upds _ _ _ _ = upds _ _ _ _
    rw [upds_late (m := i) (by omega), upds_early]
    · intro j h1 h2
      unfold updL
      split
      · rename_i xj hxj
        cases q : lget xj.eff.loc t with
        | none => rfl
        | some v => exact absurd ht ((early j xj h1 h2 hxj).l1 t (lget_mem (by rw [q]; simp))).1
      · rfl
    · intro j h1 h2 h3
      unfold updL
      split
      · rename_i xj hxj
        cases q : lget xj.eff.loc t with
        | none => rfl
        | some v => exact absurd ht ((late j xj h1 h3 hxj).l2 t (lget_mem (by rw [q]; simp)))
      · rfl
  · show upds _ _ _ _ = upds _ _ _ _
    rw [upds_late (m := i) (by omega), upds_early]
    · intro j h1 h2
      unfold updH
      split
      · rename_i xj hxj
        cases q : hlook xj.eff.hp t with
        | none => rfl
        | some v => exact absurd ht ((early j xj h1 h2 hxj).h1 t (hlook_mem (by rw [q]; simp))).1
      · rfl
    · intro j h1 h2 h3
      unfold updH
      split
      · rename_i xj hxj
        cases q : hlook xj.eff.hp t with
        | none => rfl
        | some v => exact absurd ht ((late j xj h1 h3 hxj).h2 t (hlook_mem (by rw [q]; simp)))
      · rfl
  · have hid' : id < n := by
      rw [D.lim i x n hid hx hlim]
      rw [← FL_all D.all i (by omega)] at hy
      exact D.low i x hx id y hy
    rw [← hy]
    show upds _ _ _ _ = upds _ _ _ _
    rw [upds_late (m := i) (by omega), upds_early]
    · intro j h1 h2
      unfold updH
      split
      · rename_i xj hxj
        cases q : hlook xj.eff.hp id with
        | none => rfl
        | some v => exact absurd ((early j xj h1 h2 hxj).m1 n hid hlim id (hlook_mem (by rw [q]; simp))) hn
      · rfl
    · intro j h1 h2 h3
      unfold updH
      split
      · rename_i xj hxj
        cases q : hlook xj.eff.hp id with
        | none => rfl
        | some v => exact absurd ((late j xj h1 h3 hxj).m2 n hid hlim id (hlook_mem (by rw [q]; simp)) hid') hn
      · rfl

theorem Drawn.insert (D : Drawn P C ops Q s0 xs lk bef) {L : Nat → Bool} (hc : Closed ops L) {i : Nat} {x : Rec} (hx : xs[i]? = some x) (hl : L i = false) :
    (FL s0.fs xs L xs.length).put x.dst x.eff = FL s0.fs xs (ins L i) xs.length := by
  have hlt := (List.getElem?_eq_some_iff.1 hx).1
  have late : ∀ (j : Nat) (xj : Rec), i < j → L j = true → xs[j]? = some xj → Pair (lk j) (lk i) xj x := fun j xj h1 h2 h3 => by
    rcases D.pair j i xj x h1 h3 hx with q | q
    · have := D.before hc j i (fun o' ho' => hc j o' ho' h2) q
      rw [hl] at this; cases this
    · exact q
  rw [put_none (D.all i x hx)]
  unfold FL
  congr 1
  · funext t
    rw [upds_insert hl hlt]
    · simp only [updT, hx]
    · intro j h1 h2 h3
      have hxj : xs[j]? = some xs[j] := List.getElem?_eq_getElem h2
      simp only [updT, hx, hxj]
      by_cases e : x.dst = some t
      · left; rw [if_neg]; exact ((late j _ h1 h3 hxj).t1 t e).2
      · right; rw [if_neg e]
  · funext t
    rw [upds_insert hl hlt]
    · simp only [updL, hx]
    · intro j h1 h2 h3
      have hxj : xs[j]? = some xs[j] := List.getElem?_eq_getElem h2
      simp only [updL, hx, hxj]
      cases q : lget xs[j].eff.loc t with
      | none => exact .inl rfl
      | some v =>
        cases q' : lget x.eff.loc t with
        | none => exact .inr rfl
        | some v' => exact absurd (lget_mem (by rw [q]; simp)) ((late j _ h1 h3 hxj).l1 t (lget_mem (by rw [q']; simp))).2
  · funext t
    rw [upds_insert hl hlt]
    · simp only [updH, hx]
    · intro j h1 h2 h3
      have hxj : xs[j]? = some xs[j] := List.getElem?_eq_getElem h2
      simp only [updH, hx, hxj]
      cases q : hlook xs[j].eff.hp t with
      | none => exact .inl rfl
      | some v =>
        cases q' : hlook x.eff.hp t with
        | none => exact .inr rfl
        | some v' => exact absurd (hlook_mem (by rw [q]; simp)) ((late j _ h1 h3 hxj).h1 t (hlook_mem (by rw [q']; simp))).2

/-- The numbers that are given. -/
def TR (s0 : AS) (xs : List Rec) (L : Nat → Bool) (θ0 θ : Th) : Prop := (∀ id, θ id = θ0 id ∨ (θ0 id = none ∧ ∃ j, j < xs.length ∧ L j = true ∧ nn s0 xs j ≤ id ∧ id < nn s0 xs (j + 1))) ∧ Th.fle θ0 θ

theorem Drawn.sound (D : Drawn P C ops Q s0 xs lk bef) {θ0 : Th} {nf : Nat} (hf : Free θ0 (nn s0 xs 0) nf) (hnf : nn s0 xs xs.length ≤ nf)
    (hQ : ∀ θ σ a w, Rep P C θ σ (puts s0 xs).fs a w → TR s0 xs (fun _ => true) θ0 θ → Q .normal a w) :
    ∀ (fuel : Nat) (listed : Array Bool) (a : Act) (w : World) (θ : Th) (σ : Nat → Option Nat), listed.size = ops.size → Closed ops (fun j => listed.getD j false) → unl listed ops.size ≤ fuel →
      Rep P C θ σ (FL s0.fs xs (fun j => listed.getD j false) xs.length) a w → TR s0 xs (fun j => listed.getD j false) θ0 θ → wpAny P .any ops Q fuel listed a w := by
  have fin : ∀ (listed : Array Bool) (a : Act) (w : World) (θ : Th) (σ : Nat → Option Nat), (∀ j, j < ops.size → listed.getD j false = true) →
      Rep P C θ σ (FL s0.fs xs (fun j => listed.getD j false) xs.length) a w → TR s0 xs (fun j => listed.getD j false) θ0 θ → Q .normal a w := by
    intro listed a w θ σ hall R ht
    refine hQ θ σ a w ?_ ⟨fun id => ?_, ht.2⟩
    · have e : (puts s0 xs).fs = FL s0.fs xs (fun j => listed.getD j false) xs.length := by
        have := FL_all (s := s0) D.all xs.length (Nat.le_refl _)
        rw [List.take_length] at this
        rw [this]
        unfold FL
        congr 1 <;> funext t <;> exact upds_below fun j hj => (hall j (by rw [← D.len]; exact hj)).symm
      rw [e]; exact R
    · rcases ht.1 id with q | ⟨q, j, h1, h2, h3⟩
      · exact .inl q
      · exact .inr ⟨q, j, h1, rfl, h3⟩
  intro fuel
  induction fuel with
  | zero =>
    intro listed a w θ σ hs hc hu R ht
    have hall := unl_none (listed := listed) ops.size (by omega)
    refine ⟨?_, fin listed a w θ σ hall R ht⟩
    unfold Region.ready
    rw [List.filter_eq_nil_iff]
    intro j hj
    rw [List.mem_range] at hj
    have h1 := hall j hj
    have : listed.getD j true = true := by
      have hlt : j < listed.size := by omega
      simp only [Array.getD_eq_getD_getElem?, Array.getElem?_eq_getElem hlt, Option.getD_some] at h1 ⊢
      exact h1
    rw [this]; simp
  | succ fuel ih =>
    intro listed a w θ σ hs hc hu R ht
    refine ⟨fun hr => ?_, fun i hi => ?_⟩
    · refine fin listed a w θ σ (fun j hj => ?_) R ht
      -- the least that is not listed would be ready
      induction j using Nat.strongRecOn with
      | _ j ihj =>
        cases q : listed.getD j false with
        | true => rfl
        | false =>
          have hlt : j < listed.size := by omega
          have : j ∈ Region.ready .any ops listed := by
            rw [mem_ready]
            refine ⟨by
              simp only [Array.getD_eq_getD_getElem?, Array.getElem?_eq_getElem hlt, Option.getD_some] at q ⊢
              exact q, ops[j], Array.getElem?_eq_getElem hj, fun e he hb => ?_⟩
            have := D.back j _ (Array.getElem?_eq_getElem hj) e he hb
            exact ihj e.on this (by omega)
          rw [hr] at this; cases this
    · rw [mem_ready] at hi
      obtain ⟨h0, o, ho, hr⟩ := hi
      have hlt : i < ops.size := (Array.getElem?_eq_some_iff.1 ho).1
      have hlt' : i < listed.size := by omega
      have hlx : i < xs.length := by rw [D.len]; exact hlt
      have hl : listed.getD i false = false := by
        simp only [Array.getD_eq_getD_getElem?, Array.getElem?_eq_getElem hlt', Option.getD_some] at h0 ⊢
        exact h0
      have hx : xs[i]? = some xs[i] := List.getElem?_eq_getElem hlx
      have hnn : nn s0 xs (i + 1) = xs[i].eff.n := by unfold nn; rw [puts_take_succ hx]; rfl
      have hag := D.agree hc hx ho hl (fun e he hb => hr e he hb)
      refine D.step i _ hx _ θ σ a w R hag (fun id h1 h2 => ?_) _ fun θ' σ' a' w' hext R' => ?_
      · have h1 : nn s0 xs i ≤ id := h1
        rcases ht.1 id with q | ⟨q, j, hj, hlj, g1, g2⟩
        · rw [q]
          refine hf id ?_ ?_
          · have := D.nn_le (i := 0) (j := i) (by omega) (by omega); omega
          · have := D.nn_le (i := i + 1) (j := xs.length) (by omega) (Nat.le_refl _); omega
        · exfalso
          rcases Nat.lt_trichotomy i j with z | z | z
          · have := D.nn_le (i := i + 1) (j := j) (by omega) (by omega); omega
          · subst z; simp only [hl] at hlj; cases hlj
          · have := D.nn_le (i := j + 1) (j := i) (by omega) (by omega); omega
      · rw [D.insert hc hx hl] at R'
        have ei : (fun j => (listed.setIfInBounds i true).getD j false) = ins (fun j => listed.getD j false) i := by funext j; exact getD_ins hlt' j
        refine ih _ a' w' θ' σ' (by simpa using hs) ?_ ?_ ?_ ?_
        · rw [ei]
          intro i' o' ho' hl' e he hb
          unfold ins at hl' ⊢
          split
          · rfl
          · by_cases z : i' = i
            · subst z; rw [ho] at ho'; cases ho'; exact hr e he hb
            · rw [if_neg z] at hl'; exact hc i' o' ho' hl' e he hb
        · have := (unl_set hlt' hl ops.size).1 hlt; omega
        · rw [ei]; exact R'
        · rw [ei]
          refine ⟨fun id => ?_, Th.fle_trans ht.2 hext.fz⟩
          rcases hext.pl id with q | ⟨q, g1, g2⟩
          · rw [q]
            rcases ht.1 id with z | ⟨z, j, h1, h2, h3⟩
            · exact .inl z
            · exact .inr ⟨z, j, h1, by simp only [ins]; split <;> first | rfl | exact h2, h3⟩
          · refine .inr ⟨?_, i, hlx, by simp [ins], g1, by omega⟩
            rcases ht.1 id with z | ⟨z, _⟩
            · rw [← z]; exact q
            · exact z

end
end Go.Proofs.YtogkkamlmklpkaaDoor.Ab
