/- Each plain operation of the abstract machine does what the model's operation does (second part: the operations one by one). No condition: lemmas only. -/
import Derived.Test.YtogkkamlmklpkaaDoorA4
import Derived.Laws.MakeOwn
import Derived.Laws.StructEq
import Derived.Deep.AppendLies
import Derived.WalkSpells
set_option linter.unusedVariables false
set_option linter.unusedSimpArgs false
namespace Go.Proofs.YtogkkamlmklpkaaDoor.Ab
open Go

/-! ### Cells put into others -/
theorem splice_nil {α : Type} (l : List α) (k : Nat) : splice l k [] = l := by cases l <;> cases k <;> rfl
theorem splice_cons {α : Type} : ∀ (l : List α) (off : Nat) (c : α) (cs : List α), off < l.length → splice l off (c :: cs) = splice (l.set off c) (off + 1) cs
  | [], _, _, _, h => by simp at h
  | x :: l, 0, c, cs, h => by
    cases cs with
    | nil => simp [splice, splice_nil]
    | cons d ds => simp [splice]
  | x :: l, k + 1, c, cs, h => by
    have ih := splice_cons l k c cs (by simpa using h)
    cases cs with
    | nil => simp only [splice, splice_nil, List.set_cons_succ] at ih ⊢; rw [ih]
    | cons d ds => simp only [splice, List.set_cons_succ]; rw [ih]
theorem splice_eq {α : Type} : ∀ (cs l : List α) (off : Nat), off + cs.length ≤ l.length → splice l off cs = l.take off ++ cs ++ l.drop (off + cs.length)
  | [], l, off, _ => by simp [splice_nil]
  | c :: cs, l, off, h => by
    have hlt : off < l.length := by simp at h; omega
    rw [splice_cons l off c cs hlt, splice_eq cs (l.set off c) (off + 1) (by simp at h ⊢; omega)]
    rw [List.take_succ_eq_append_getElem (by simpa using hlt)]
    simp [List.take_set_of_le, List.drop_set_of_lt, Nat.add_assoc, Nat.add_comm 1]
theorem splice_length {α : Type} (cs l : List α) (off : Nat) (h : off + cs.length ≤ l.length) : (splice l off cs).length = l.length := by
  rw [splice_eq cs l off h]; simp; omega
theorem VRels.splice {θ : Th} {a cs : List AV} {v us : List Value} (h : VRels θ a v) (k : VRels θ cs us) (off : Nat) (hl : off + cs.length ≤ a.length) : VRels θ (splice a off cs) (Ab.splice v off us) := by
  rw [splice_eq cs a off hl, splice_eq us v off (by rw [k.length, h.length]; exact hl), k.length]
  exact ((h.take off).append k).append (h.drop _)
theorem splice_take {α : Type} : ∀ (l : List α) (off n : Nat) (vs : List α), off + vs.length ≤ n → (splice l off vs).take n = splice (l.take n) off vs
  | l, off, n, [], _ => by rw [splice_nil, splice_nil]
  | [], off, n, c :: cs, _ => by cases off <;> simp [splice]
  | x :: l, 0, n + 1, c :: cs, h => by
    simp only [splice, List.take_succ_cons]
    rw [splice_take l 0 n cs (by simp at h; omega)]
  | x :: l, k + 1, n + 1, c :: cs, h => by
    simp only [splice, List.take_succ_cons]
    rw [splice_take l k n (c :: cs) (by simp at h ⊢; omega)]
  | x :: l, off, 0, c :: cs, h => by simp at h
theorem foldl_splice : ∀ (l : List Value) (off k : Nat) (arr : Array Value), off + k + l.length ≤ arr.size →
    ((l.zipIdx k).foldl (fun cs (p : Value × Nat) => cs.setIfInBounds (off + p.2) p.1) arr).toList = splice arr.toList (off + k) l
  | [], off, k, arr, _ => by simp [splice_nil]
  | c :: l, off, k, arr, h => by
    have hlt : off + k < arr.size := by simp at h; omega
    simp only [List.zipIdx_cons, List.foldl_cons]
    rw [foldl_splice l off (k + 1) _ (by simp at h ⊢; omega), splice_cons arr.toList (off + k) c l (by simpa using hlt)]
    simp [Nat.add_assoc]

theorem VRel.cells {θ : Th} {v : AV} {u : Value} (h : VRel θ v u) : VRels θ v.cells u.cells.toList := by
  cases v <;> simp only [AV.cells] <;> try (simp only [VRels]; exact ⟨u, [], by
    first
    | (simp only [VRel] at h; subst h; rfl)
    | (simp only [VRel] at h; obtain ⟨_, rfl, _⟩ := h; rfl)
    | (simp only [VRel] at h; obtain ⟨_, _, rfl, _⟩ := h; rfl)
    | (simp only [VRel] at h; obtain ⟨_, _, _, rfl, _⟩ := h; rfl)
    | (simp only [VRel] at h; rcases h with ⟨_, _, _, _, rfl, _⟩ | ⟨rfl, _⟩ <;> rfl)
    | (simp [VRel] at h; done)
    | (rename_i q; cases q with
       | none => simp only [VRel] at h; subst h; rfl
       | some q => obtain ⟨x, y⟩ := q; simp only [VRel] at h; obtain ⟨_, _, _, _, rfl⟩ := h; rfl)
    | (rename_i q _ _; cases q with
       | none => simp only [VRel] at h; obtain ⟨_, _, rfl⟩ := h; rfl
       | some q => obtain ⟨x, y⟩ := q; simp only [VRel] at h; obtain ⟨_, _, _, _, _, rfl, _⟩ := h; rfl), h, rfl⟩; done)
  rename_i cs
  simp only [VRel] at h
  obtain ⟨ds, rfl, h⟩ := h
  exact h
theorem VRel.one {θ : Th} {v : AV} {u : Value} (h : VRel θ v u) (hv : v.one = true) : u.oneCell' = true := by
  cases v <;> try (simp [AV.one] at hv; done)
  all_goals
    first
    | (simp only [VRel] at h; subst h; rfl)
    | (simp only [VRel] at h; obtain ⟨_, rfl, _⟩ := h; rfl)
    | (simp only [VRel] at h; obtain ⟨_, _, rfl, _⟩ := h; rfl)
    | (simp only [VRel] at h; obtain ⟨_, _, _, rfl, _⟩ := h; rfl)
    | (simp only [VRel] at h; rcases h with ⟨_, _, _, _, rfl, _⟩ | ⟨rfl, _⟩ <;> rfl)
    | (rename_i q; cases q with
       | none => simp only [VRel] at h; subst h; rfl
       | some q => obtain ⟨x, y⟩ := q; simp only [VRel] at h; obtain ⟨_, _, _, _, rfl⟩ := h; rfl)
    | (rename_i q _ _; cases q with
       | none => simp only [VRel] at h; obtain ⟨_, _, rfl⟩ := h; rfl
       | some q => obtain ⟨x, y⟩ := q; simp only [VRel] at h; obtain ⟨_, _, _, _, _, rfl, _⟩ := h; rfl)
theorem VRels.ones {θ : Th} : ∀ {a : List AV} {v : List Value}, VRels θ a v → a.all AV.one = true → ∀ u ∈ v, u.oneCell' = true
  | [], _, h, _, u, hu => by simp only [VRels] at h; subst h; cases hu
  | a :: as, _, h, ha, u, hu => by
    simp only [VRels] at h
    obtain ⟨v, vs, rfl, h1, h2⟩ := h
    simp only [List.all_cons, Bool.and_eq_true] at ha
    cases hu with
    | head => exact h1.one ha.1
    | tail _ hm => exact h2.ones ha.2 u hm

def constsOk : List Value → List AV → Bool
  | [], [] => true
  | v :: vs, x :: xs => constOk v x && constsOk vs xs
  | _, _ => false
theorem constsOk_rel {θ : Th} : ∀ {v : List Value} {x : List AV}, constsOk v x = true → VRels θ x v
  | [], [], _ => by simp [VRels]
  | v :: vs, x :: xs, h => by
    simp only [constsOk, Bool.and_eq_true] at h
    simp only [VRels]
    exact ⟨v, vs, rfl, constOk_rel h.1, constsOk_rel h.2⟩
  | [], _ :: _, h => by simp [constsOk] at h
  | _ :: _, [], h => by simp [constsOk] at h

/-! ### What is asked of an operation -/
def AgL (F : FS) (s : AS) (f : Foot) : Prop := ∀ t, t ∈ f.locs → F.loc t = lget s.loc t
def AgH (F : FS) (s : AS) (f : Foot) : Prop := (∀ id, id ∈ f.hps → F.hp id = hget s.h id) ∧ (f.lim.isSome = true → ∀ id x, hget s.h id = some x → F.hp id = some x)
/-- No number between two stands for anything yet. -/
def Free (θ : Th) (lo hi : Nat) : Prop := ∀ id, lo ≤ id → id < hi → θ id = none

def OpOK (P : Program) (C : Cx) (s : AS) (o : Oper) (ao : AOp) (e : Eff) (f : Foot) : Prop :=
  ∀ (F : FS) (θ : Th) (σ : Nat → Option Nat) (a : Act) (w : World), Rep P C θ σ F a w → (∀ t, o.dst = some t → t < C.N) → AgT F s.fr ao.rd → AgL F s f → AgH F s f → Free θ s.n e.n →
    StepTo P C θ σ s.n e.n o a w (F.put o.dst e)

/-- What is proved of each operation. -/
def OpS (P : Program) (C : Cx) (s : AS) (o : Oper) (ao : AOp) (k : Eff → Foot → Option Res) (r : Res) : Prop :=
  ∃ e f, k e f = some r ∧ s.n ≤ e.n ∧ OpOK P C s o ao e f

section
variable {P : Program} {C : Cx} {O : Orc} {s : AS} {o : Oper} {k : Eff → Foot → Option Res} {r : Res}

theorem s_mv {x : AX} {y : Operand} (ho : o.op = .move y ∨ o.op = .assign y) (ok : okX C.ng y x = true) (h : evOp O C.fl o.dst (.mv x) s k = some r) : OpS P C s o (.mv x) k r := by
  simp only [evOp_mv, evOp_nchk, evOp_pop, evOp_pick, evOp_alloc_true, evOp_alloc_false, evOp_box_true, evOp_box_false, evOp_build, evOp_bslice, evOp_load, evOp_store, evOp_bin, evOp_eqs, evOp_eqb, evOp_eqnil, evOp_un, evOp_conv, evOp_fadr, evOp_fld, evOp_iadr, evOp_iadra, evOp_idx, evOp_idxs, evOp_slc, evOp_ext, evOp_mkf, evOp_mks, evOp_call, evOp_len_false, evOp_len_true, evOp_app, evOp_mm] at h
  split at h
  · rename_i v hv
    refine ⟨_, _, h, Nat.le_refl _, fun F θ σ a w R hd ag _ _ _ => ?_⟩
    obtain ⟨h1, h2⟩ := xv_rel R ok hv ag
    exact step_pure R hd (by rcases ho with ho | ho <;> simp [execOp, ho]) (Chg.refl _ _) h1 h2
  · cases h

theorem s_pick {c x y : AX} {c' x' y' : Operand} (ho : o.op = .pick c' x' y') (ok : okX C.ng c' c = true ∧ okX C.ng x' x = true ∧ okX C.ng y' y = true)
    (h : evOp O C.fl o.dst (.pick c x y) s k = some r) : OpS P C s o (.pick c x y) k r := by
  simp only [evOp_mv, evOp_nchk, evOp_pop, evOp_pick, evOp_alloc_true, evOp_alloc_false, evOp_box_true, evOp_box_false, evOp_build, evOp_bslice, evOp_load, evOp_store, evOp_bin, evOp_eqs, evOp_eqb, evOp_eqnil, evOp_un, evOp_conv, evOp_fadr, evOp_fld, evOp_iadr, evOp_iadra, evOp_idx, evOp_idxs, evOp_slc, evOp_ext, evOp_mkf, evOp_mks, evOp_call, evOp_len_false, evOp_len_true, evOp_app, evOp_mm] at h
  split at h
  · rename_i hc
    split at h
    · rename_i v hv
      refine ⟨_, _, h, Nat.le_refl _, fun F θ σ a w R hd ag _ _ _ => ?_⟩
      have hcr := xn_rel R ok.1 hc (ag.left.left)
      simp only [VRel] at hcr
      obtain ⟨h1, h2⟩ := xv_rel R ok.2.1 hv (ag.left.right)
      exact step_pure R hd (by simp [execOp, ho, hcr, asBool]) (Chg.refl _ _) h1 h2
    · cases h
  · rename_i hc
    split at h
    · rename_i v hv
      refine ⟨_, _, h, Nat.le_refl _, fun F θ σ a w R hd ag _ _ _ => ?_⟩
      have hcr := xn_rel R ok.1 hc (ag.left.left)
      simp only [VRel] at hcr
      obtain ⟨h1, h2⟩ := xv_rel R ok.2.2 hv (ag.right)
      exact step_pure R hd (by simp [execOp, ho, hcr, asBool]) (Chg.refl _ _) h1 h2
    · cases h
  · cases h

/-! ### New variables -/
theorem run_alloc {e : TypeId} {i : TypeInfo} {z : Value} {w : World} (hi : P.info? e = some i) (hz : i.zero = some z) :
    (Instr.alloc e true (.tuple #[])).run P w = .ok (.pointer (some ⟨w.heap.size, 0, none⟩)) (w.alloc (.cells z.cells e)) := by
  simp [Instr.alloc, zeroValue, typeInfo, hi, hz, newVar, newRow]
theorem run_box {e : TypeId} {v : Value} {w : World} : (Instr.box e v).run P w = .ok (.pointer (some ⟨w.heap.size, 0, none⟩)) (w.alloc (.cells v.cells e)) := by
  simp [Instr.box, newVar, newRow]

/-- A new slot. -/
theorem step_slot {F : FS} {θ : Th} {σ : Nat → Option Nat} {a : Act} {w : World} {t n lo hi : Nat} {cs : List AV} {arr : Array Value} {ty : TypeId} (R : Rep P C θ σ F a w) (hd : ∀ t, o.dst = some t → t < C.N) (ht : o.dst = some t)
    (hn : F.loc t = none) (hr : VRels θ cs arr.toList) (hrun : (execOp a.eval o).run P w = .ok (.value (.pointer (some ⟨w.heap.size, 0, none⟩))) (w.alloc (.cells arr ty))) :
    StepTo P C θ σ lo hi o a w (F.put o.dst ⟨some (.lp t 0), [(t, cs)], [], n, none⟩) := by
  refine step_val hrun (Th.ext_refl _ _ _) ⟨R.m.slot hn (cs := cs) (fun u => ?_) (by funext id; simp [FS.put, hlook_nl, hlook_cns]) hr, R.t.step (Th.le_refl _) (fun u hu => ?_) hd (fun x hx => ?_) (fun u off e => ?_)⟩
  · simp only [FS.put, lget_cons]
    by_cases q : t = u
    · simp [q]
    · rw [if_neg q, if_neg q]; rfl
  · have : t ≠ u := fun q => by subst q; rw [hn] at hu; cases hu
    simp [this]
  · simp only [Option.some.injEq] at hx; subst hx
    exact ⟨w.heap.size, by simp, rfl⟩
  · simp only [Option.some.injEq, AV.lp.injEq] at e
    simp [lget_cons, e.1]

/-- A new numbered block. -/
theorem step_new {F : FS} {θ : Th} {σ : Nat → Option Nat} {a : Act} {w w1 : World} {n c : Nat} {x : ABlk} {arr : Array Value} {v : AV} {u : Value} (R : Rep P C θ σ F a w) (hd : ∀ t, o.dst = some t → t < C.N)
    (hf : Free θ n (n + 1)) (hx : x.own = true)
    (hb : x.cells.length ≤ arr.size ∧ VRels θ x.cells (arr.toList.take x.cells.length) ∧ (if x.opn = true then arr.size = c * P.cellsOf x.ty ∧ c ≤ maxLen else arr.size = x.cells.length))
    (h1 : Chg (fun _ => False) w w1)
    (hv : ∀ θ' : Th, θ' n = some (w1.heap.size, 0, c) → VRel θ' v u)
    (hrun : (execOp a.eval o).run P w = .ok (.value u) (w1.alloc (.cells arr x.ty))) :
    StepTo P C θ σ n (n + 1) o a w (F.put o.dst ⟨some v, [], [(n, some x)], n + 1, none⟩) := by
  have hn : θ n = none := hf n (Nat.le_refl _) (by omega)
  have hv' := hv (θ.upd n (w1.heap.size, 0, c)) (by simp [Th.upd])
  have R1 : RepM P C θ σ F w1 := R.m.same rfl rfl h1
  refine step_val (θ' := θ.upd n (w1.heap.size, 0, c)) hrun ⟨fun id => ?_, fun _ _ _ e => e⟩ ⟨R1.new (x := x) hn (by funext u; simp [FS.put, lget_nil, lget_cns]) (fun id => ?_) hx hb, R.t.step ⟨fun id t e => ?_, fun _ _ _ e => e⟩ (fun _ _ => rfl) hd (fun y hy => ?_) (fun q off e => ?_)⟩
  · by_cases q : n = id
    · exact .inr ⟨by rw [← q]; exact hn, by omega, by omega⟩
    · exact .inl (by simp [Th.upd, q])
  · simp only [FS.put, hlook_nl, hlook_cns]
    by_cases q : n = id
    · simp [q, beq_true.2]
    · simp [q, beq_false.2 q]
  · by_cases q : n = id
    · subst q; rw [hn] at e; cases e
    · simp [Th.upd, q, e]
  · simp only [Option.some.injEq] at hy; subst hy
    exact TRel.of hv'
  · simp only [Option.some.injEq] at e
    subst e; simp [VRel] at hv'

def zeroOk (P : Program) (e : TypeId) (z : List AV) : Bool :=
  match P.info? e with
  | some i => match i.zero with
    | some v => constsOk v.cells.toList z && Nat.beq v.cells.size i.size
    | none => false
  | none => false
theorem zeroOk_of {e : TypeId} {z : List AV} (h : zeroOk P e z = true) : ∃ i v, P.info? e = some i ∧ i.zero = some v ∧ v.cells.size = i.size ∧ ∀ θ, VRels θ z v.cells.toList := by
  unfold zeroOk at h
  split at h
  · rename_i i hi
    split at h
    · rename_i v hv
      simp only [Bool.and_eq_true] at h
      exact ⟨i, v, hi, hv, beq_true.1 h.2, fun θ => constsOk_rel h.1⟩
    · cases h
  · cases h

theorem arr_of {θ : Th} {cs : List AV} {arr : Array Value} (h : VRels θ cs arr.toList) : cs.length ≤ arr.size ∧ VRels θ cs (arr.toList.take cs.length) ∧ arr.size = cs.length := by
  have := h.length
  simp at this
  exact ⟨by omega, by rw [List.take_of_length_le (by simp; omega)]; exact h, this⟩

theorem s_alloc {lc : Bool} {ty : TypeId} {z : List AV} (ho : o.op = .alloc ty) (ok : zeroOk P ty z = true)
    (h : evOp O C.fl o.dst (.alloc lc ty z) s k = some r) : OpS P C s o (.alloc lc ty z) k r := by
  obtain ⟨i, v, hi, hz, hs, hr⟩ := zeroOk_of ok
  have run : ∀ (a : Act) (w : World), (execOp a.eval o).run P w = .ok (.value (.pointer (some ⟨w.heap.size, 0, none⟩))) (w.alloc (.cells v.cells ty)) := fun a w => by
    simp [execOp, ho, run_alloc hi hz]
  cases lc with
  | true =>
    simp only [evOp_mv, evOp_nchk, evOp_pop, evOp_pick, evOp_alloc_true, evOp_alloc_false, evOp_box_true, evOp_box_false, evOp_build, evOp_bslice, evOp_load, evOp_store, evOp_bin, evOp_eqs, evOp_eqb, evOp_eqnil, evOp_un, evOp_conv, evOp_fadr, evOp_fld, evOp_iadr, evOp_iadra, evOp_idx, evOp_idxs, evOp_slc, evOp_ext, evOp_mkf, evOp_mks, evOp_call, evOp_len_false, evOp_len_true, evOp_app, evOp_mm] at h
    split at h
    · rename_i t ht
      split at h
      · rename_i hl
        refine ⟨_, _, h, Nat.le_refl _, fun F θ σ a w R hd ag agl _ _ => ?_⟩
        exact step_slot R hd ht (by rw [agl t (by simp)]; exact hl) (hr θ) (run a w)
      · cases h
    · cases h
  | false =>
    simp only [evOp_mv, evOp_nchk, evOp_pop, evOp_pick, evOp_alloc_true, evOp_alloc_false, evOp_box_true, evOp_box_false, evOp_build, evOp_bslice, evOp_load, evOp_store, evOp_bin, evOp_eqs, evOp_eqb, evOp_eqnil, evOp_un, evOp_conv, evOp_fadr, evOp_fld, evOp_iadr, evOp_iadra, evOp_idx, evOp_idxs, evOp_slc, evOp_ext, evOp_mkf, evOp_mks, evOp_call, evOp_len_false, evOp_len_true, evOp_app, evOp_mm] at h
    refine ⟨_, _, h, by simp, fun F θ σ a w R hd ag _ _ hf => ?_⟩
    have := arr_of (hr θ)
    exact step_new (c := 0) R hd hf rfl ⟨this.1, this.2.1, by simpa using this.2.2⟩ (Chg.refl _ _) (fun θ' e => by simp only [VRel]; exact ⟨_, _, _, e, rfl⟩) (run a w)

theorem s_box {lc : Bool} {ty : TypeId} {x : AX} {y : Operand} (ho : o.op = .box ty y) (ok : okX C.ng y x = true)
    (h : evOp O C.fl o.dst (.box lc ty x) s k = some r) : OpS P C s o (.box lc ty x) k r := by
  have run : ∀ (a : Act) (w : World), (execOp a.eval o).run P w = .ok (.value (.pointer (some ⟨w.heap.size, 0, none⟩))) (w.alloc (.cells (a.eval y).cells ty)) := fun a w => by
    simp [execOp, ho, run_box]
  cases lc with
  | true =>
    simp only [evOp_mv, evOp_nchk, evOp_pop, evOp_pick, evOp_alloc_true, evOp_alloc_false, evOp_box_true, evOp_box_false, evOp_build, evOp_bslice, evOp_load, evOp_store, evOp_bin, evOp_eqs, evOp_eqb, evOp_eqnil, evOp_un, evOp_conv, evOp_fadr, evOp_fld, evOp_iadr, evOp_iadra, evOp_idx, evOp_idxs, evOp_slc, evOp_ext, evOp_mkf, evOp_mks, evOp_call, evOp_len_false, evOp_len_true, evOp_app, evOp_mm] at h
    split at h
    · rename_i t ht
      split at h
      · rename_i hl
        split at h
        · rename_i v hv
          refine ⟨_, _, h, Nat.le_refl _, fun F θ σ a w R hd ag agl _ _ => ?_⟩
          exact step_slot R hd ht (by rw [agl t (by simp)]; exact hl) (xn_rel R ok hv ag).cells (run a w)
        · cases h
      · cases h
    · cases h
  | false =>
    simp only [evOp_mv, evOp_nchk, evOp_pop, evOp_pick, evOp_alloc_true, evOp_alloc_false, evOp_box_true, evOp_box_false, evOp_build, evOp_bslice, evOp_load, evOp_store, evOp_bin, evOp_eqs, evOp_eqb, evOp_eqnil, evOp_un, evOp_conv, evOp_fadr, evOp_fld, evOp_iadr, evOp_iadra, evOp_idx, evOp_idxs, evOp_slc, evOp_ext, evOp_mkf, evOp_mks, evOp_call, evOp_len_false, evOp_len_true, evOp_app, evOp_mm] at h
    split at h
    · rename_i v hv
      refine ⟨_, _, h, by simp, fun F θ σ a w R hd ag _ _ hf => ?_⟩
      have := arr_of (xn_rel R ok hv ag).cells
      exact step_new (c := 0) R hd hf rfl ⟨this.1, this.2.1, by simpa using this.2.2⟩ (Chg.refl _ _) (fun θ' e => by simp only [VRel]; exact ⟨_, _, _, e, rfl⟩) (run a w)
    · cases h

/-! ### Values put together -/
def partsOk (ng : Nat) (place : Nat → Option (Nat × Nat)) : List (Nat × Operand) → List (Nat × Nat × AX) → Bool
  | [], [] => true
  | (i, y) :: r, (off, sz, x) :: q => (match place i with
    | some (off', sz') => Nat.beq off off' && Nat.beq sz sz'
    | none => false) && okX ng y x && partsOk ng place r q
  | _, _ => false

theorem fill_run {F : FS} {θ : Th} {σ : Nat → Option Nat} {a : Act} {w : World} (R : Rep P C θ σ F a w) {place : Nat → Option (Nat × Nat)} {fr : List (Nat × AV)} :
    ∀ (parts : List (Nat × Operand)) (ps : List (Nat × Nat × AX)) (z cs : List AV) (arr : Array Value), partsOk C.ng place parts ps = true → afill (xv fr) z ps = some cs → AgT F fr (ps.flatMap fun p => p.2.2.rd) → VRels θ z arr.toList →
      ∃ out, Instr.fill place arr (parts.map fun (i, x) => (i, a.eval x)) = some out ∧ VRels θ cs out.toList ∧ cs.length = z.length
  | [], [], z, cs, arr, _, h, _, hz => by
    simp only [afill, Option.some.injEq] at h; subst h
    exact ⟨arr, rfl, hz, rfl⟩
  | (i, y) :: r, (off, sz, x) :: q, z, cs, arr, ok, h, ag, hz => by
    simp only [partsOk, Bool.and_eq_true] at ok
    obtain ⟨⟨ok1, ok2⟩, ok3⟩ := ok
    split at ok1
    · rename_i off' sz' hp
      simp only [Bool.and_eq_true] at ok1
      have e1 := beq_true.1 ok1.1; have e2 := beq_true.1 ok1.2
      subst e1; subst e2
      simp only [afill] at h
      split at h
      · rename_i v hv
        cases hc : (!v.islp && v.cells.all AV.one && Nat.beq v.cells.length sz && Nat.ble (off + sz) z.length) with
        | false => simp [hc] at h
        | true =>
          simp only [hc, cond_true] at h
          simp only [Bool.and_eq_true] at hc
          obtain ⟨⟨⟨h1, h2⟩, h3⟩, h4⟩ := hc
          have h3 := beq_true.1 h3
          have h4 := Nat.le_of_ble_eq_true h4
          simp only [List.flatMap_cons] at ag
          have hr := ((xv_rel R ok2 hv ag.left).1.val (by simpa using h1)).cells
          have hl := hr.length
          simp at hl
          have hzl := hz.length
          simp at hzl
          have hsp := foldl_splice (a.eval y).cells.toList off 0 arr (by simp; omega)
          have e : ((a.eval y).cells.zipIdx.foldl (fun cs (p : Value × Nat) => cs.setIfInBounds (off + p.2) p.1) arr).toList = splice arr.toList off (a.eval y).cells.toList := by
            rw [Nat.add_zero] at hsp
            rw [← hsp, ← Array.foldl_toList, Array.toList_zipIdx]
          obtain ⟨out, g1, g2, g3⟩ := fill_run R r q (splice z off v.cells) cs _ ok3 h ag.right (by rw [e]; exact hz.splice hr off (by omega))
          refine ⟨out, ?_, g2, by rw [g3, splice_length _ _ _ (by omega)]⟩
          simp only [List.map_cons, Instr.fill, hp]
          rw [if_neg (by simp; omega)]
          exact g1
      · cases h
    · cases ok1
  | [], _ :: _, _, _, _, ok, _, _, _ => by simp [partsOk] at ok
  | _ :: _, [], _, _, _, ok, _, _, _ => by simp [partsOk] at ok

def buildOk (P : Program) (ng : Nat) (t : TypeId) (parts : Array (Nat × Operand)) (z : List AV) (ps : List (Nat × Nat × AX)) : Bool :=
  match P.info? t, P.underlying t with
  | some it, some (.array _ e) =>
    match it.zero, P.info? e with
    | some v, some ie => constsOk v.cells.toList z && partsOk ng (fun i => some (i * ie.size, ie.size)) parts.toList ps
    | _, _ => false
  | some it, some (.struct fields) =>
    match it.zero, fields.toList.mapM (fun f => (P.info? f.type).map fun i => (f.offset, i.size)) with
    | some v, some places => constsOk v.cells.toList z && partsOk ng (places.toArray[·]?) parts.toList ps
    | _, _ => false
  | _, _ => false

theorem s_build {t : TypeId} {parts : Array (Nat × Operand)} {z : List AV} {ps : List (Nat × Nat × AX)} (ho : o.op = .build t parts) (ok : buildOk P C.ng t parts z ps = true)
    (h : evOp O C.fl o.dst (.build z ps) s k = some r) : OpS P C s o (.build z ps) k r := by
  simp only [evOp_mv, evOp_nchk, evOp_pop, evOp_pick, evOp_alloc_true, evOp_alloc_false, evOp_box_true, evOp_box_false, evOp_build, evOp_bslice, evOp_load, evOp_store, evOp_bin, evOp_eqs, evOp_eqb, evOp_eqnil, evOp_un, evOp_conv, evOp_fadr, evOp_fld, evOp_iadr, evOp_iadra, evOp_idx, evOp_idxs, evOp_slc, evOp_ext, evOp_mkf, evOp_mks, evOp_call, evOp_len_false, evOp_len_true, evOp_app, evOp_mm] at h
  split at h
  · rename_i cs hcs
    refine ⟨_, _, h, Nat.le_refl _, fun F θ σ a w R hd ag _ _ _ => ?_⟩
    have key : ∃ out, P.built t (parts.map fun (i, x) => (i, a.eval x)).toList = some out ∧ VRels θ cs out.toList := by
      unfold buildOk at ok
      unfold Program.built
      simp only [Array.toList_map]
      split at ok
      · rename_i it n e hi hu
        split at ok
        · rename_i v ie hz hie
          simp only [Bool.and_eq_true] at ok
          obtain ⟨out, g1, g2, _⟩ := fill_run R parts.toList ps z cs v.cells ok.2 hcs ag (constsOk_rel ok.1)
          exact ⟨out, by simp only [hi, hu, hz, hie]; exact g1, g2⟩
        · cases ok
      · rename_i it fields hi hu
        split at ok
        · rename_i v places hz hpl
          simp only [Bool.and_eq_true] at ok
          obtain ⟨out, g1, g2, _⟩ := fill_run R parts.toList ps z cs v.cells ok.2 hcs ag (constsOk_rel ok.1)
          exact ⟨out, by simp only [hi, hu, hz, hpl]; exact g1, g2⟩
        · cases ok
      · cases ok
    obtain ⟨out, g1, g2⟩ := key
    exact step_pure' (u := .agg out) R hd (by simp [execOp, ho, run_build (P := P) w t _ out g1]) (by simp only [VRel]; exact ⟨out, rfl, g2⟩)
  · cases h

def bsliceOk (P : Program) (ng : Nat) (t : TypeId) (len : Nat) (parts : Array (Nat × Operand)) (ety : TypeId) (esz alen : Nat) (z : List AV) (ps : List (Nat × Nat × AX)) : Bool :=
  match P.underlying t, P.info? ety with
  | some (.slice e), some ie =>
    Nat.beq e ety && Nat.beq len alen && Nat.beq ie.size esz && Nat.ble (len * esz) 16777216 &&
    (match ie.zero with
     | some v => constsOk ((Array.range (len * esz)).map (v.cells[· % v.cells.size]!)).toList z && partsOk ng (fun i => some (i * esz, esz)) parts.toList ps
     | none => false)
  | _, _ => false

theorem s_bslice {t : TypeId} {len : Nat} {parts : Array (Nat × Operand)} {ety : TypeId} {esz alen : Nat} {z : List AV} {ps : List (Nat × Nat × AX)} (ho : o.op = .buildSlice t len parts) (ok : bsliceOk P C.ng t len parts ety esz alen z ps = true)
    (h : evOp O C.fl o.dst (.bslice ety esz alen z ps) s k = some r) : OpS P C s o (.bslice ety esz alen z ps) k r := by
  simp only [evOp_mv, evOp_nchk, evOp_pop, evOp_pick, evOp_alloc_true, evOp_alloc_false, evOp_box_true, evOp_box_false, evOp_build, evOp_bslice, evOp_load, evOp_store, evOp_bin, evOp_eqs, evOp_eqb, evOp_eqnil, evOp_un, evOp_conv, evOp_fadr, evOp_fld, evOp_iadr, evOp_iadra, evOp_idx, evOp_idxs, evOp_slc, evOp_ext, evOp_mkf, evOp_mks, evOp_call, evOp_len_false, evOp_len_true, evOp_app, evOp_mm] at h
  split at h
  · rename_i cs hcs
    refine ⟨_, _, h, by simp, fun F θ σ a w R hd ag _ _ hf => ?_⟩
    unfold bsliceOk at ok
    split at ok
    · rename_i e ie hu hi
      simp only [Bool.and_eq_true] at ok
      obtain ⟨⟨⟨⟨e1, e2⟩, e3⟩, e4⟩, ok⟩ := ok
      have e1 := beq_true.1 e1; have e2 := beq_true.1 e2; have e3 := beq_true.1 e3; have e4 := Nat.le_of_ble_eq_true e4
      subst e1; subst e2
      split at ok
      · rename_i v hz
        simp only [Bool.and_eq_true] at ok
        obtain ⟨out, g1, g2, _⟩ := fill_run R parts.toList ps z cs _ ok.2 hcs ag (constsOk_rel ok.1)
        have := arr_of g2
        have hrun : (Instr.buildSlice t len (parts.map fun (i, x) => (i, a.eval x))).run P w = .ok (.slice (some ⟨w.heap.size, 0, none⟩) len len) (w.alloc (.cells out e)) := by
          have h4 : ¬ (16777216 < len * esz) := by omega
          by_cases h0 : len * esz = 0
          · have hz0 : z = [] := by
              have := (constsOk_rel (θ := θ) ok.1).length
              simp [h0] at this
              exact List.eq_nil_of_length_eq_zero this.symm
            have ge : (Array.range (len * esz)).map (v.cells[· % v.cells.size]!) = #[] := by rw [h0]; simp
            rw [ge] at g1
            have gd : (Array.range 0).map (fun _ => (default : Value)) = #[] := by simp
            have g1' : Instr.fill (fun i => some (i * esz, esz)) #[] (List.map (fun x => (x.fst, a.eval x.snd)) parts.toList) = some out := g1
            simp only [Instr.buildSlice, Sem.run_bind, run_underlying hu, sizeOf, typeInfo, run_program, hi, Result.andThen_ok, Sem.run_pure, e3, h0]
            simp [newRow, gd, g1']
          · simp [Instr.buildSlice, run_underlying hu, sizeOf, typeInfo, hi, e3, h4, h0, zeroValue, hz, newRow, g1]
        exact step_new (c := 0) (x := ⟨true, false, e, esz, cs⟩) R hd hf rfl ⟨this.1, this.2.1, by simpa using this.2.2⟩ (Chg.refl _ _) (fun θ' e => by simp only [VRel]; exact ⟨_, _, _, _, e, rfl, Nat.le_refl _, rfl⟩) (by simp [execOp, ho, hrun])
      · cases ok
    · cases ok
  · cases h

/-! ### Loads and stores -/
theorem lp_of {σ : Nat → Option Nat} {θ : Th} {t off : Nat} {u : Value} (h : TRel θ σ (.lp t off) u) : ∃ b, σ t = some b ∧ u = .pointer (some ⟨b, off, none⟩) := h

theorem s_load {t : TypeId} {y : Operand} {sz : Option Nat} {x : AX} (ho : o.op = .load t y) (ok : okX C.ng y x = true) (hs : lie P t = some sz)
    (h : evOp O C.fl o.dst (.load sz x) s k = some r) : OpS P C s o (.load sz x) k r := by
  simp only [evOp_mv, evOp_nchk, evOp_pop, evOp_pick, evOp_alloc_true, evOp_alloc_false, evOp_box_true, evOp_box_false, evOp_build, evOp_bslice, evOp_load, evOp_store, evOp_bin, evOp_eqs, evOp_eqb, evOp_eqnil, evOp_un, evOp_conv, evOp_fadr, evOp_fld, evOp_iadr, evOp_iadra, evOp_idx, evOp_idxs, evOp_slc, evOp_ext, evOp_mkf, evOp_mks, evOp_call, evOp_len_false, evOp_len_true, evOp_app, evOp_mm] at h
  split at h
  · rename_i q off hv
    split at h
    · rename_i cs hl
      split at h
      · rename_i v hp
        refine ⟨_, _, h, Nat.le_refl _, fun F θ σ a w R hd ag agl _ _ => ?_⟩
        obtain ⟨b, hb, hu⟩ := lp_of (xv_rel R ok hv ag).1
        obtain ⟨b', arr, ty, g1, g2, g3, g4⟩ := R.m.loc q cs (by rw [agl q (by simp)]; exact hl)
        rw [hb] at g1; cases g1
        obtain ⟨u, hu1, hu2⟩ := loadVar_run (P := P) (w := w) (b := b) (o := 0) hs hp (fun i x hx => by
          obtain ⟨u, hu, hr⟩ := g4.get hx
          exact ⟨u, by simp only [World.cell?, g3, Nat.zero_add]; simpa using hu, hr⟩)
        rw [Nat.zero_add] at hu1
        exact step_pure' R hd (by simp [execOp, ho, hu, Instr.loadAt, Instr.sureAddr, hu1]) hu2
      · cases h
    · cases h
  · rename_i id off hv
    split at h
    · rename_i x' hl
      split at h
      · rename_i v hp
        refine ⟨_, _, h, Nat.le_refl _, fun F θ σ a w R hd ag _ agh _ => ?_⟩
        have hx := (xv_rel R ok hv ag).1.val rfl
        simp only [VRel] at hx
        obtain ⟨b, o', c, he, hu⟩ := hx
        obtain ⟨b', o'', c', g1, g0, g2⟩ := R.m.hp id x' (by rw [agh.1 id (by simp)]; exact hl)
        rw [he] at g1; cases g1
        obtain ⟨u, hu1, hu2⟩ := loadVar_run (P := P) (w := w) (b := b) (o := o') hs hp (fun i x hx => g2.at P hx)
        exact step_pure' R hd (by simp [execOp, ho, hu, Instr.loadAt, Instr.sureAddr, hu1]) hu2
      · cases h
    · cases h
  · rename_i cs hv
    split at h
    · rename_i v hp
      refine ⟨_, _, h, Nat.le_refl _, fun F θ σ a w R hd ag _ _ _ => ?_⟩
      have hx := (xv_rel R ok hv ag).1.val rfl
      simp only [VRel] at hx
      obtain ⟨b, o', us, hu, ha, _, hr⟩ := hx
      obtain ⟨u, hu1, hu2⟩ := loadVar_run (P := P) (w := w) (b := b) (o := o') hs hp (fun i x hx => by
        obtain ⟨u, hu, hr⟩ := hr.get hx
        exact ⟨u, R.m.fzc _ _ _ (ha i u hu), hr⟩)
      rw [Nat.add_zero] at hu1
      exact step_pure' R hd (by simp [execOp, ho, hu, Instr.loadAt, Instr.sureAddr, hu1]) hu2
    · cases h
  · cases h

theorem run_storeVar {t ty : TypeId} {b off n : Nat} {arr : Array Value} {v : Value} {w : World} (hg : w.heap[b]? = some (.cells arr ty (0, 0))) (hi : (P.info? t).map (·.size) = some n) (hn : v.cells.size = n)
    (hl : off + n ≤ arr.size) (h1 : ∀ u ∈ v.cells.toList, u.oneCell' = true) :
    (storeVar t ⟨b, off, none⟩ v).run P w = .ok () (w.setRow b (splice arr.toList off v.cells.toList).toArray) := by
  cases hi' : P.info? t with
  | none => simp [hi'] at hi
  | some i =>
    simp [hi'] at hi
    have hst := run_storeCells_at P b off ty v.cells.toList 0 arr w hg (by simp; omega) h1
    simp only [Nat.add_zero] at hst
    rw [splice_eq _ _ _ (by simp; omega)]
    simp only [storeVar, Sem.run_bind, sizeOf, typeInfo, run_program, hi', Result.andThen_ok, Sem.run_pure, hi, hn, ne_eq, not_true, if_false, hst]

theorem s_store {t : TypeId} {y z : Operand} {sz : Nat} {x v : AX} (ho : o.op = .store t y z) (ok : okX C.ng y x = true ∧ okX C.ng z v = true) (hs : (P.info? t).map (·.size) = some sz)
    (h : evOp O C.fl o.dst (.store sz x v) s k = some r) : OpS P C s o (.store sz x v) k r := by
  simp only [evOp_mv, evOp_nchk, evOp_pop, evOp_pick, evOp_alloc_true, evOp_alloc_false, evOp_box_true, evOp_box_false, evOp_build, evOp_bslice, evOp_load, evOp_store, evOp_bin, evOp_eqs, evOp_eqb, evOp_eqnil, evOp_un, evOp_conv, evOp_fadr, evOp_fld, evOp_iadr, evOp_iadra, evOp_idx, evOp_idxs, evOp_slc, evOp_ext, evOp_mkf, evOp_mks, evOp_call, evOp_len_false, evOp_len_true, evOp_app, evOp_mm] at h
  split at h
  · rename_i u hu
    cases hc : (u.cells.all AV.one && Nat.beq u.cells.length sz) with
    | false => simp [hc] at h
    | true =>
      simp only [hc, cond_true] at h
      simp only [Bool.and_eq_true] at hc
      have hc2 := beq_true.1 hc.2
      split at h
      · rename_i q off hv
        split at h
        · rename_i cs hl
          cases hb' : Nat.ble (off + sz) cs.length with
          | false => simp [hb'] at h
          | true =>
            simp only [hb', cond_true] at h
            have hle := Nat.le_of_ble_eq_true hb'
            refine ⟨_, _, h, Nat.le_refl _, fun F θ σ a w R hd ag agl _ _ => ?_⟩
            obtain ⟨b, hb, hpt⟩ := lp_of (xv_rel R ok.1 hv ag.left).1
            have hur := (xn_rel R ok.2 hu ag.right).cells
            have hFl : F.loc q = some cs := by rw [agl q (by simp)]; exact hl
            obtain ⟨b', arr, ty, g1, g2, g3, g4⟩ := R.m.loc q cs hFl
            rw [hb] at g1; cases g1
            have l1 := hur.length; simp at l1
            have l2 := g4.length; simp at l2
            have hrun := run_storeVar (P := P) (t := t) (off := off) g3 hs (by omega) (by omega) (hur.ones hc.1)
            have hx : (execOp a.eval o).run P w = .ok .skip (w.setRow b (splice arr.toList off (a.eval z).cells.toList).toArray) := by simp [execOp, ho, hpt, Instr.storeAt, Instr.sureAddr, hrun]
            refine step_skip hx (Th.ext_refl _ _ _)
              ⟨R.m.slotSet hFl hb (cs := splice cs off u.cells) (fun s' => ?_) (by funext id; simp [FS.put, hlook_nl, hlook_cns]) (g4.splice hur off (by omega)) (Chg.row _ _ _) (by rw [setRow_heap w b arr _ ty (0, 0) g3]),
               R.t.step (Th.le_refl _) (fun _ _ => rfl) hd (fun _ e => by cases e) (fun _ _ e => by cases e)⟩
            simp only [FS.put, lget_cons]
            by_cases e : q = s'
            · simp [e]
            · rw [if_neg e, if_neg e]; rfl
        · cases h
      · rename_i id off hv
        split at h
        · rename_i x' hl
          cases hb' : Nat.ble (off + sz) x'.cells.length with
          | false => simp [hb'] at h
          | true =>
            simp only [hb', cond_true] at h
            have hle := Nat.le_of_ble_eq_true hb'
            unfold ownAt at hl
            split at hl
            · rename_i x2 hx2
              cases ho2 : (x2.own && Nat.ble C.fl id) with
              | false => simp [ho2] at hl
              | true =>
                simp only [ho2, cond_true, Option.some.injEq] at hl
                subst hl
                simp only [Bool.and_eq_true] at ho2
                have hfl := Nat.le_of_ble_eq_true ho2.2
                refine ⟨_, _, h, Nat.le_refl _, fun F θ σ a w R hd ag _ agh _ => ?_⟩
                have hx := (xv_rel R ok.1 hv ag.left).1.val rfl
                simp only [VRel] at hx
                obtain ⟨b, o', c, he, hpt⟩ := hx
                have hur := (xn_rel R ok.2 hu ag.right).cells
                have hFh : F.hp id = some x2 := by rw [agh.1 id (by simp)]; exact hx2
                obtain ⟨b', o'', c', g1, g0, g2⟩ := R.m.hp id x2 hFh
                rw [he] at g1; cases g1
                unfold BRel at g2; rw [if_pos ho2.1] at g2
                obtain ⟨rfl, arr, g3, g4, g5, g6⟩ := g2
                have l1 := hur.length; simp at l1
                have hrun := run_storeVar (P := P) (t := t) (off := 0 + off) g3 hs (by omega) (by omega) (hur.ones hc.1)
                have hlen : (splice x2.cells off u.cells).length = x2.cells.length := splice_length _ _ _ (by omega)
                simp only [Nat.zero_add] at hrun hpt
                have hx : (execOp a.eval o).run P w = .ok .skip (w.setRow b (splice arr.toList off (a.eval z).cells.toList).toArray) := by simp [execOp, ho, hpt, Instr.storeAt, Instr.sureAddr, hrun]
                refine step_skip hx (Th.ext_refl _ _ _)
                  ⟨R.m.set (x' := { x2 with cells := splice x2.cells off u.cells }) hFh ho2.1 hfl he (by funext q; simp [FS.put, lget_nil, lget_cns]) (fun id' => ?_) ho2.1 rfl ⟨?_, ?_, ?_⟩ (Chg.row _ _ _) (by rw [setRow_heap w b arr _ x2.ty (0, 0) g3]),
                   R.t.step (Th.le_refl _) (fun _ _ => rfl) hd (fun _ e => by cases e) (fun _ _ e => by cases e)⟩
                · simp only [FS.put, hlook_nl, hlook_cns]
                  by_cases e : id = id'
                  · simp [e, beq_true.2]
                  · simp [e, beq_false.2 e]
                · simp only [hlen, List.size_toArray]; rw [splice_length _ _ _ (by simp; omega)]; simpa using g4
                · simp only [hlen]
                  rw [splice_take _ _ _ _ (by simp; omega)]
                  exact g5.splice hur off (by omega)
                · simp only [hlen, List.size_toArray]; rw [splice_length _ _ _ (by simp; omega)]; simpa using g6
            · cases hl
        · cases h
      · cases h
  · cases h

end
end Go.Proofs.YtogkkamlmklpkaaDoor.Ab
