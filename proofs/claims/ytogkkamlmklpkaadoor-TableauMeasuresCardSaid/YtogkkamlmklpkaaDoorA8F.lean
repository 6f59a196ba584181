/- Each operation on values alone (floats, complex numbers, a pointer held against nil) does what the model's operation does. No condition: lemmas only. -/
import Derived.Test.YtogkkamlmklpkaaDoorA8
import Derived.Laws.FloatArith
import Derived.Laws.Pointers
import Derived.Laws.Externs
import Derived.KernelRfl
set_option linter.unusedVariables false
set_option linter.unusedSimpArgs false
namespace Go.Proofs.YtogkkamlmklpkaaDoor.Ab
open Go

/-! ### NaN -/
def nanb (x : Nat) : Bool := (FloatKind.f64.format.read x).isNaN
theorem FEq.of {x y : Nat} (h : FEq .f64 x y) : x = y ∨ (nanb x = true ∧ nanb y = true) := h
theorem read_nan {x : Nat} (h : nanb x = true) : ∃ s f, FloatKind.f64.format.read x = .nan s f := by
  unfold nanb at h
  cases e : FloatKind.f64.format.read x <;> simp [e, Ieee.Datum.isNaN] at h ⊢
theorem add_nl {x y : Nat} (h : nanb x = true) : FloatKind.f64.format.add x y = none := by
  obtain ⟨s, f, e⟩ := read_nan h; unfold Ieee.Format.add; rw [e]; rfl
theorem add_nr {x y : Nat} (h : nanb y = true) : FloatKind.f64.format.add x y = none := by
  obtain ⟨s, f, e⟩ := read_nan h; unfold Ieee.Format.add; rw [e]
  cases FloatKind.f64.format.read x <;> rfl
theorem sub_nl {x y : Nat} (h : nanb x = true) : FloatKind.f64.format.sub x y = none := by
  obtain ⟨s, f, e⟩ := read_nan h; unfold Ieee.Format.sub; rw [e]; rfl
theorem sub_nr {x y : Nat} (h : nanb y = true) : FloatKind.f64.format.sub x y = none := by
  obtain ⟨s, f, e⟩ := read_nan h; unfold Ieee.Format.sub; rw [e]
  cases FloatKind.f64.format.read x <;> rfl
theorem mul_nl {x y : Nat} (h : nanb x = true) : FloatKind.f64.format.mul x y = none := by
  obtain ⟨s, f, e⟩ := read_nan h; unfold Ieee.Format.mul; rw [e]; rfl
theorem mul_nr {x y : Nat} (h : nanb y = true) : FloatKind.f64.format.mul x y = none := by
  obtain ⟨s, f, e⟩ := read_nan h; unfold Ieee.Format.mul; rw [e]
  cases FloatKind.f64.format.read x <;> rfl
theorem div_nl {x y : Nat} (h : nanb x = true) : FloatKind.f64.format.div x y = none := by
  obtain ⟨s, f, e⟩ := read_nan h; unfold Ieee.Format.div; rw [e]; rfl
theorem div_nr {x y : Nat} (h : nanb y = true) : FloatKind.f64.format.div x y = none := by
  obtain ⟨s, f, e⟩ := read_nan h; unfold Ieee.Format.div; rw [e]
  cases FloatKind.f64.format.read x <;> rfl
theorem ord_nl {x y : Nat} (h : nanb x = true) : FloatKind.f64.format.order x y = none := by
  obtain ⟨s, f, e⟩ := read_nan h; unfold Ieee.Format.order; rw [e]; rfl
theorem ord_nr {x y : Nat} (h : nanb y = true) : FloatKind.f64.format.order x y = none := by
  obtain ⟨s, f, e⟩ := read_nan h; unfold Ieee.Format.order; rw [e]
  cases FloatKind.f64.format.read x <;> rfl
/-- What does not tell NaNs apart. -/
theorem two_nan {ρ : Type} {g : Nat → Nat → Option ρ} (hl : ∀ x y, nanb x = true → g x y = none) (hr : ∀ x y, nanb y = true → g x y = none) {x y x' y' : Nat} (h : FEq .f64 x x') (k : FEq .f64 y y') : g x y = g x' y' := by
  rcases h.of with rfl | ⟨a, b⟩
  · rcases k.of with rfl | ⟨a, b⟩
    · rfl
    · rw [hr _ _ a, hr _ _ b]
  · rw [hl _ _ a, hl _ _ b]
theorem ord_eq {x y x' y' : Nat} (h : FEq .f64 x x') (k : FEq .f64 y y') : FloatKind.f64.format.order x y = FloatKind.f64.format.order x' y' := two_nan (fun _ _ => ord_nl) (fun _ _ => ord_nr) h k
theorem nan_iff (x : Nat) : nanb x = decide (2047 * 2 ^ 52 < x % 2 ^ 63) := by
  have e : FloatKind.f64.format.signWeight = 2 ^ 63 := rfl
  have e2 : FloatKind.f64.format.infRung = 2047 * 2 ^ 52 := rfl
  have e3 : FloatKind.f64.format.binade = 2 ^ 52 := rfl
  unfold nanb Ieee.Format.read
  simp only [e, e2, e3]
  split
  · simp only [Ieee.Datum.isNaN]; rw [eq_comm, decide_eq_false_iff_not]; omega
  · split
    · simp only [Ieee.Datum.isNaN]; rw [eq_comm, decide_eq_false_iff_not]; omega
    · split
      · simp only [Ieee.Datum.isNaN]; rw [eq_comm, decide_eq_false_iff_not]; omega
      · simp only [Ieee.Datum.isNaN]; rw [eq_comm, decide_eq_true_eq]; omega
theorem neg_nan (x : Nat) : nanb (Op.negFloat .f64 x) = nanb x := by
  rw [nan_iff, nan_iff]
  have : Op.negFloat .f64 x % 2 ^ 63 = x % 2 ^ 63 := by
    have e : Op.negFloat .f64 x = x ^^^ 2 ^ 63 := rfl
    rw [e, Nat.xor_mod_two_pow, Nat.mod_self, Nat.xor_zero]
  rw [this]
theorem cut_nan (t x y : Nat) : nanb ((Question.nanBits .f64 x y).cut t) = true := by
  rw [nan_iff, decide_eq_true_eq]
  show _ < ((t % 2) * 2 ^ 63 + 0x7ff0000000000000 + 1 + (t / 2) % (2 ^ 52 - 1)) % 2 ^ 63
  have h1 : (t / 2) % (2 ^ 52 - 1) < 2 ^ 52 - 1 := Nat.mod_lt _ (by decide)
  generalize (t / 2) % (2 ^ 52 - 1) = u at h1
  rcases Nat.mod_two_eq_zero_or_one t with e | e <;> rw [e] <;> omega

section
variable {P : Program} {C : Cx} {O : Orc} {s : AS} {o : Oper} {k : Eff → Foot → Option Res} {r : Res}

theorem s_nchk {x : AX} {x' : Operand} (ho : o.op = .nilCheck x') (ok : okX C.ng x' x = true) (h : evOp O C.fl o.dst (.nchk x) s k = some r) : OpS P C s o (.nchk x) k r := by
  simp only [evOp_mv, evOp_nchk, evOp_pop, evOp_pick, evOp_alloc_true, evOp_alloc_false, evOp_box_true, evOp_box_false, evOp_build, evOp_bslice, evOp_load, evOp_store, evOp_bin, evOp_eqs, evOp_eqb, evOp_eqnil, evOp_un, evOp_conv, evOp_fadr, evOp_fld, evOp_iadr, evOp_iadra, evOp_idx, evOp_idxs, evOp_slc, evOp_ext, evOp_mkf, evOp_mks, evOp_call, evOp_len_false, evOp_len_true, evOp_app, evOp_mm] at h
  split at h
  · rename_i t off hv
    refine ⟨_, _, h, Nat.le_refl _, fun F θ σ a w R hd ag _ _ _ => ?_⟩
    obtain ⟨h1, h2⟩ := xv_rel R ok hv ag
    obtain ⟨b, _, hu⟩ := lp_of h1
    exact step_pure (u := .pointer (some ⟨b, off, none⟩)) R hd (by simp [execOp, ho, hu]) (Chg.refl _ _) (by rw [← hu]; exact h1) h2
  · rename_i p hv
    refine ⟨_, _, h, Nat.le_refl _, fun F θ σ a w R hd ag _ _ _ => ?_⟩
    obtain ⟨h1, h2⟩ := xv_rel R ok hv ag
    obtain ⟨id, off⟩ := p
    have h1' := h1.val rfl
    have h3 := h1'
    simp only [VRel] at h3
    obtain ⟨b, o', c, _, hu⟩ := h3
    exact step_pure (u := .pointer (some ⟨b, o' + off, none⟩)) R hd (by simp [execOp, ho, hu]) (Chg.refl _ _) (by rw [← hu]; exact h1) h2
  · rename_i cs hv
    refine ⟨_, _, h, Nat.le_refl _, fun F θ σ a w R hd ag _ _ _ => ?_⟩
    obtain ⟨h1, h2⟩ := xv_rel R ok hv ag
    have h3 := h1.val rfl
    simp only [VRel] at h3
    obtain ⟨b, o', us, hu, _⟩ := h3
    exact step_pure (u := .pointer (some ⟨b, o', none⟩)) R hd (by simp [execOp, ho, hu]) (Chg.refl _ _) (by rw [← hu]; exact h1) h2
  · cases h

/-- What an operation on values alone is asked. -/
def PopRun (P : Program) (o : Oper) (l : List Operand) (p : POp) : Prop :=
  ∀ (a : Act) (θ : Th) (w : World) (vs : List AV) (v : AV), apo p vs = some v → VRels θ vs (l.map a.eval) →
    ∃ u w', (execOp a.eval o).run P w = .ok (.value u) w' ∧ Chg (fun _ => False) w w' ∧ VRel θ v u

theorem s_pop {p : POp} {xs : List AX} {l : List Operand} (hr : PopRun P o l p) (ok : okXs C.ng l xs = true) (h : evOp O C.fl o.dst (.pop p xs) s k = some r) : OpS P C s o (.pop p xs) k r := by
  simp only [evOp_mv, evOp_nchk, evOp_pop, evOp_pick, evOp_alloc_true, evOp_alloc_false, evOp_box_true, evOp_box_false, evOp_build, evOp_bslice, evOp_load, evOp_store, evOp_bin, evOp_eqs, evOp_eqb, evOp_eqnil, evOp_un, evOp_conv, evOp_fadr, evOp_fld, evOp_iadr, evOp_iadra, evOp_idx, evOp_idxs, evOp_slc, evOp_ext, evOp_mkf, evOp_mks, evOp_call, evOp_len_false, evOp_len_true, evOp_app, evOp_mm] at h
  split at h
  · rename_i vs hvs
    split at h
    · rename_i v hv
      refine ⟨_, _, h, Nat.le_refl _, fun F θ σ a w R hd ag _ _ _ => ?_⟩
      have h1 := xns_rel R l xs vs (okXs_of ok).1 (okXs_of ok).2 hvs ag
      obtain ⟨u, w', g1, g2, g3⟩ := hr a θ w vs v hv h1
      exact step_pure R hd g1 g2 (TRel.of g3) (fun s off e => by subst e; simp [VRel] at g3)
    · cases h
  · cases h

theorem rels1 {θ : Th} {x : AV} {l : List Operand} {a : Act} {y : Operand} (h : VRels θ [x] ([y].map a.eval)) : VRel θ x (a.eval y) := by
  simp only [VRels, List.map_cons, List.map_nil, List.cons.injEq] at h
  obtain ⟨v, vs, ⟨e1, e2⟩, h1, h2⟩ := h
  rw [e1]; exact h1
theorem rels2 {θ : Th} {x x2 : AV} {a : Act} {y y2 : Operand} (h : VRels θ [x, x2] ([y, y2].map a.eval)) : VRel θ x (a.eval y) ∧ VRel θ x2 (a.eval y2) := by
  simp only [VRels, List.map_cons, List.map_nil, List.cons.injEq] at h
  obtain ⟨v, vs, ⟨e1, e2⟩, h1, v2, vs2, e3, h2, h3⟩ := h
  rw [e3] at e2
  simp only [List.cons.injEq] at e2
  rw [e1, e2.1]; exact ⟨h1, h2⟩
theorem chg_drew (w : World) : Chg (fun _ => False) w w.drew := Chg.drew _ w

theorem real_eq {ts : Array TypeId} {t : TypeId} {k : FloatKind} {x y : Nat} : Builtin.real_ ts t #[.complex k x y] = pure (.float k x) := rfl
theorem imag_eq {ts : Array TypeId} {t : TypeId} {k : FloatKind} {x y : Nat} : Builtin.imag_ ts t #[.complex k x y] = pure (.float k y) := rfl
theorem cplx_eq {ts : Array TypeId} {t : TypeId} {k : FloatKind} {x y : Nat} : Builtin.complex_ ts t #[.float k x, .float k y] = pure (.complex k x y) := by
  show (if k = k then _ else _) = _
  rw [if_pos rfl]
theorem fv_some {r : Nat} {θ : Th} : VRel θ (fval (some r)) (.float .f64 r) := by simp only [fval, VRel]; exact ⟨_, rfl, .inl rfl⟩
theorem nan_fval {x : Nat} (h : nanb x = true) {θ : Th} : VRel θ (fval none) (.float .f64 x) := by
  simp only [fval, VRel]
  exact ⟨_, rfl, .inr ⟨by decide, h⟩⟩
theorem arith_run {op : BinOp} {θ : Th} {x y : Nat} {a b : Value} {w : World} {t : TypeId} {v : AV} (hv : apo (.fbin op) [.f .f64 x, .f .f64 y] = some v) (ha : VRel θ (.f .f64 x) a) (hb : VRel θ (.f .f64 y) b) :
    ∃ u w', (binOp op t a b).run P w = .ok u w' ∧ Chg (fun _ => False) w w' ∧ VRel θ v u := by
  simp only [VRel] at ha hb
  obtain ⟨x', rfl, hx⟩ := ha
  obtain ⟨y', rfl, hy⟩ := hb
  cases op <;> simp only [apo, Option.some.injEq] at hv <;> first | (cases hv; done) | skip
  all_goals subst hv
  · have e := two_nan (g := FloatKind.f64.format.add) (fun _ _ => add_nl) (fun _ _ => add_nr) hx hy
    cases q : FloatKind.f64.format.add x' y' with
    | some r => rw [e, q]; exact ⟨.float .f64 r, w, by simp [binOp, Op.floatArith, q], Chg.refl _ _, fv_some⟩
    | none =>
      rw [e, q]
      exact ⟨.float .f64 ((Question.nanBits .f64 x' y').cut (w.tape w.drawn (Question.nanBits .f64 x' y'))), w.drew, by simp [binOp, Op.floatArith, q, run_choose_drew, Question.forced], chg_drew w, nan_fval (cut_nan ..)⟩
  · have e := two_nan (g := FloatKind.f64.format.sub) (fun _ _ => sub_nl) (fun _ _ => sub_nr) hx hy
    cases q : FloatKind.f64.format.sub x' y' with
    | some r => rw [e, q]; exact ⟨.float .f64 r, w, by simp [binOp, Op.floatArith, q], Chg.refl _ _, fv_some⟩
    | none =>
      rw [e, q]
      exact ⟨.float .f64 ((Question.nanBits .f64 x' y').cut (w.tape w.drawn (Question.nanBits .f64 x' y'))), w.drew, by simp [binOp, Op.floatArith, q, run_choose_drew, Question.forced], chg_drew w, nan_fval (cut_nan ..)⟩
  · have e := two_nan (g := FloatKind.f64.format.mul) (fun _ _ => mul_nl) (fun _ _ => mul_nr) hx hy
    cases q : FloatKind.f64.format.mul x' y' with
    | some r => rw [e, q]; exact ⟨.float .f64 r, w, by simp [binOp, Op.floatArith, q], Chg.refl _ _, fv_some⟩
    | none =>
      rw [e, q]
      exact ⟨.float .f64 ((Question.nanBits .f64 x' y').cut (w.tape w.drawn (Question.nanBits .f64 x' y'))), w.drew, by simp [binOp, Op.floatArith, q, run_choose_drew, Question.forced], chg_drew w, nan_fval (cut_nan ..)⟩
  · have e := two_nan (g := FloatKind.f64.format.div) (fun _ _ => div_nl) (fun _ _ => div_nr) hx hy
    cases q : FloatKind.f64.format.div x' y' with
    | some r => rw [e, q]; exact ⟨.float .f64 r, w, by simp [binOp, Op.floatArith, q], Chg.refl _ _, fv_some⟩
    | none =>
      rw [e, q]
      exact ⟨.float .f64 ((Question.nanBits .f64 x' y').cut (w.tape w.drawn (Question.nanBits .f64 x' y'))), w.drew, by simp [binOp, Op.floatArith, q, run_choose_drew, Question.forced], chg_drew w, nan_fval (cut_nan ..)⟩
theorem fcmp_run {op : BinOp} {θ : Th} {x y : Nat} {a b : Value} {w : World} {t : TypeId} {v : AV} (hv : apo (.fcmp op) [.f .f64 x, .f .f64 y] = some v) (ha : VRel θ (.f .f64 x) a) (hb : VRel θ (.f .f64 y) b) :
    ∃ u, (binOp op t a b).run P w = .ok u w ∧ VRel θ v u := by
  simp only [VRel] at ha hb
  obtain ⟨x', rfl, hx⟩ := ha
  obtain ⟨y', rfl, hy⟩ := hb
  have e := ord_eq hx hy
  simp only [apo, e] at hv
  cases op <;> simp only [fcmpB, Option.some.injEq] at hv <;> first | (cases hv; done) | skip
  all_goals
    subst hv
    exact ⟨_, by simp [binOp, Op.floatCmp]; rfl, by simp [VRel]⟩

theorem ng_float {θ : Th} {k : FloatKind} {x : Nat} {a : Value} (h : VRel θ (.f k x) a) : a ≠ .nilIface ∧ (∀ c, a ≠ .agg c) := by
  simp only [VRel] at h; obtain ⟨_, rfl, _⟩ := h; exact ⟨by simp, by simp⟩
theorem ng_cplx {θ : Th} {k : FloatKind} {x y : Nat} {a : Value} (h : VRel θ (.c k x y) a) : a ≠ .nilIface ∧ (∀ c, a ≠ .agg c) := by
  simp only [VRel] at h; obtain ⟨_, _, rfl, _⟩ := h; exact ⟨by simp, by simp⟩

theorem p_fbin {op : BinOp} {t t' : TypeId} {x y : Operand} (ho : o.op = .binOp op t x y t') : PopRun P o [x, y] (.fbin op) := fun a θ w vs v hv h => by
  unfold apo at hv
  split at hv <;> rename_i e <;> first | (cases e; done) | skip
  · cases e
    obtain ⟨h1, h2⟩ := rels2 h
    rename_i m n
    obtain ⟨u, w', g1, g2, g3⟩ := arith_run (P := P) (w := w) (t := t) (op := op) (v := v) (by simpa only [apo] using hv) h1 h2
    exact ⟨u, w', by simp [execOp, ho, run_eqGuard (P := P) (ng_float h1), g1], g2, g3⟩
  all_goals cases hv
theorem p_fcmp {op : BinOp} {t t' : TypeId} {x y : Operand} (ho : o.op = .binOp op t x y t') : PopRun P o [x, y] (.fcmp op) := fun a θ w vs v hv h => by
  unfold apo at hv
  split at hv <;> rename_i e <;> first | (cases e; done) | skip
  · cases e
    obtain ⟨h1, h2⟩ := rels2 h
    obtain ⟨u, g1, g3⟩ := fcmp_run (P := P) (w := w) (t := t) (op := op) (v := v) (by simpa only [apo] using hv) h1 h2
    exact ⟨u, w, by simp [execOp, ho, run_eqGuard (P := P) (ng_float h1), g1], Chg.refl _ _, g3⟩
  all_goals cases hv
theorem p_ceq {neg : Bool} {t t' : TypeId} {x y : Operand} (ho : o.op = .binOp (if neg then .neq else .eql) t x y t') : PopRun P o [x, y] (.ceq neg) := fun a θ w vs v hv h => by
  unfold apo at hv
  split at hv <;> rename_i e <;> first | (cases e; done) | skip
  · cases e
    obtain ⟨h1, h2⟩ := rels2 h
    have q := ng_cplx h1
    simp only [VRel] at h1 h2
    obtain ⟨a1, b1, e1, f1, f2⟩ := h1
    obtain ⟨a2, b2, e2, f3, f4⟩ := h2
    have o1 := ord_eq f1 f3
    have o2 := ord_eq f2 f4
    simp only [o1, o2, Option.some.injEq] at hv
    subst hv
    refine ⟨_, w, ?_, Chg.refl _ _, by simp only [VRel]; rfl⟩
    rw [e1] at q
    cases neg <;> simp [execOp, ho, e1, e2, run_eqGuard (P := P) q, binOp, Op.complexOp, Op.Complex.cmp, Op.floatCmp, asBool]
  all_goals cases hv
theorem p_fneg {t : TypeId} {x : Operand} (ho : o.op = .unOp .neg t x) : PopRun P o [x] .fneg := fun a θ w vs v hv h => by
  unfold apo at hv
  split at hv <;> rename_i e <;> first | (cases e; done) | skip
  · have h1 := rels1 (l := []) h
    simp only [Option.some.injEq] at hv; subst hv
    simp only [VRel] at h1
    obtain ⟨x', e1, hx⟩ := h1
    refine ⟨.float .f64 (Op.negFloat .f64 x'), w, by simp [execOp, ho, e1, Op.unary], Chg.refl _ _, ?_⟩
    simp only [VRel]
    refine ⟨_, rfl, ?_⟩
    rcases hx.of with rfl | ⟨p, q⟩
    · exact .inl rfl
    · exact .inr ⟨by have := neg_nan ‹Nat›; rw [← neg_nan] at p; exact p, by rw [← neg_nan] at q; exact q⟩
  all_goals cases hv
theorem p_re {ts : Array TypeId} {x : Operand} (ho : o.op = .call { callee := .builtin .real, args := #[x], argTypes := ts }) : PopRun P o [x] .re := fun a θ w vs v hv h => by
  unfold apo at hv
  split at hv <;> rename_i e <;> first | (cases e; done) | skip
  · have h1 := rels1 (l := []) h
    simp only [Option.some.injEq] at hv; subst hv
    simp only [VRel] at h1
    obtain ⟨x', y', e1, hx, hy⟩ := h1
    exact ⟨.float .f64 x', w, by simp [execOp, ho, e1, resolve, invoke, builtin, real_eq], Chg.refl _ _, by simp only [VRel]; exact ⟨_, rfl, hx⟩⟩
  all_goals cases hv
theorem p_im {ts : Array TypeId} {x : Operand} (ho : o.op = .call { callee := .builtin .imag, args := #[x], argTypes := ts }) : PopRun P o [x] .im := fun a θ w vs v hv h => by
  unfold apo at hv
  split at hv <;> rename_i e <;> first | (cases e; done) | skip
  · have h1 := rels1 (l := []) h
    simp only [Option.some.injEq] at hv; subst hv
    simp only [VRel] at h1
    obtain ⟨x', y', e1, hx, hy⟩ := h1
    exact ⟨.float .f64 y', w, by simp [execOp, ho, e1, resolve, invoke, builtin, imag_eq], Chg.refl _ _, by simp only [VRel]; exact ⟨_, rfl, hy⟩⟩
  all_goals cases hv
theorem p_mk {ts : Array TypeId} {x y : Operand} (ho : o.op = .call { callee := .builtin .complex, args := #[x, y], argTypes := ts }) : PopRun P o [x, y] .mk := fun a θ w vs v hv h => by
  unfold apo at hv
  split at hv <;> rename_i e <;> first | (cases e; done) | skip
  · obtain ⟨h1, h2⟩ := rels2 h
    simp only [Option.some.injEq] at hv; subst hv
    simp only [VRel] at h1 h2
    obtain ⟨x', e1, hx⟩ := h1
    obtain ⟨y', e2, hy⟩ := h2
    exact ⟨.complex .f64 x' y', w, by simp [execOp, ho, e1, e2, resolve, invoke, builtin, cplx_eq], Chg.refl _ _, by simp only [VRel]; exact ⟨_, _, rfl, hx, hy⟩⟩
  all_goals cases hv
theorem p_ofi {src dst : TypeId} {x : Operand} (ho : o.op = .convert src dst x) (h1 : (P.underlying src).isSome = true) (h2 : P.underlying dst = some (.float .f64)) : PopRun P o [x] .ofi := fun a θ w vs v hv h => by
  unfold apo at hv
  split at hv <;> rename_i e <;> first | (cases e; done) | skip
  · have h3 := rels1 (l := []) h
    simp only [Option.some.injEq] at hv; subst hv
    simp only [VRel] at h3
    obtain ⟨u, hu⟩ := Option.isSome_iff_exists.1 h1
    refine ⟨.float .f64 (FloatKind.f64.nearest _), w, ?_, Chg.refl _ _, by simp only [VRel]; exact ⟨_, rfl, .inl rfl⟩⟩
    cases u <;> simp [execOp, ho, h3, convert, run_underlying hu, run_underlying h2, Conv.intToFloat]
  all_goals cases hv
theorem p_toi {k : IntKind} {src dst : TypeId} {x : Operand} (ho : o.op = .convert src dst x) (h1 : (P.underlying src).isSome = true) (h2 : P.underlying dst = some (.int k)) : PopRun P o [x] (.toi k) := fun a θ w vs v hv h => by
  unfold apo at hv
  split at hv <;> rename_i e <;> first | (cases e; done) | skip
  · have h3 := rels1 (l := []) h
    split at hv
    · rename_i n hn
      cases e
      simp only [Option.some.injEq] at hv; subst hv
      simp only [VRel] at h3
      obtain ⟨x', e1, hx⟩ := h3
      rename_i m _
      have hxx : m = x' := by
        rcases hx.of with e2 | ⟨p, q⟩
        · exact e2
        · exfalso
          obtain ⟨s, f, e3⟩ := read_nan p
          unfold floatToIntVal FloatKind.decode at hn
          rw [e3] at hn
          simp [Ieee.Datum.toInt, Ieee.Datum.integral] at hn
      subst hxx
      exact ⟨.int k n, w, by simp [execOp, ho, e1, run_convert_float_int w src dst .f64 k m n h1 h2 hn], Chg.refl _ _, by simp only [VRel]⟩
    · cases hv
  all_goals cases hv
theorem p_pnil {neg : Bool} {t t' : TypeId} {x : Operand} (ho : o.op = .binOp (if neg then .neq else .eql) t x (.const (.pointer none)) t') (ht : P.underlying t = some (.pointer (P.pointee t))) : PopRun P o [x] (.pnil neg) := fun a θ w vs v hv h => by
  unfold apo at hv
  split at hv <;> rename_i e <;> first | (cases e; done) | skip
  · have h3 := rels1 (l := []) h
    simp only [Option.some.injEq] at hv
    rename_i p
    have key : ∃ q : Option Addr, a.eval x = .pointer q ∧ q.isSome = p.isSome := by
      cases p with
      | none => simp only [VRel] at h3; exact ⟨_, h3, rfl⟩
      | some q => obtain ⟨id, off⟩ := q; simp only [VRel] at h3; obtain ⟨b, o, c, _, e⟩ := h3; exact ⟨_, e, rfl⟩
    obtain ⟨q, e1, e2⟩ := key
    have hc : a.eval (.const (.pointer none)) = .pointer none := rfl
    have hgd : ∀ op, (eqGuard op t x (.const (.pointer none)) (.pointer q) (.pointer none)).run P w = .ok () w := fun op => run_eqGuard ⟨by simp, by simp⟩
    have hq := run_equal_pointer_nil w t q ht
    cases e
    subst hv
    refine ⟨.bool (bif neg then p.isSome else !p.isSome), w, ?_, Chg.refl _ _, by simp only [VRel]⟩
    cases neg <;> simp [execOp, ho, e1, hc, hgd, binOp, hq, ← e2] <;> cases q <;> simp
  · have h3 := rels1 (l := []) h
    simp only [Option.some.injEq] at hv
    simp only [VRel] at h3
    obtain ⟨b, o1, us, e1, _⟩ := h3
    have hc : a.eval (.const (.pointer none)) = .pointer none := rfl
    have hgd : ∀ op, (eqGuard op t x (.const (.pointer none)) (.pointer (some ⟨b, o1, none⟩)) (.pointer none)).run P w = .ok () w := fun op => run_eqGuard ⟨by simp, by simp⟩
    have hq := run_equal_pointer_nil w t (some ⟨b, o1, none⟩) ht
    cases e
    subst hv
    refine ⟨.bool neg, w, ?_, Chg.refl _ _, by simp only [VRel]⟩
    cases neg <;> simp [execOp, ho, e1, hc, hgd, binOp, hq]
  all_goals cases hv

/-! ### Two functions of the library that have no body -/
theorem gen_fb : Extern.allGenericRows.lookup "math.Float64bits" = none := by kernel_rfl
theorem typ_fb : Extern.allTypedRows.lookup "math.Float64bits" = none := by kernel_rfl
theorem all_fb' : Extern.allRows.lookup "math.Float64bits" = some Extern.MathFloatBits.float64bits := by kernel_rfl
theorem nxt_fb : Extern.allNextRows.lookup "math.Float64bits" = none := by kernel_rfl
theorem gen_ff : Extern.allGenericRows.lookup "math.Float64frombits" = none := by kernel_rfl
theorem typ_ff : Extern.allTypedRows.lookup "math.Float64frombits" = none := by kernel_rfl
theorem all_ff' : Extern.allRows.lookup "math.Float64frombits" = some Extern.MathFloatBits.float64frombits := by kernel_rfl
theorem nxt_ff : Extern.allNextRows.lookup "math.Float64frombits" = none := by kernel_rfl
/-- Is it the library's function of that name, without a body? -/
def isExt (P : Program) (f : FuncId) (name : String) : Bool :=
  match P.funcs[f]? with
  | some fn => decide (fn.name = name) && fn.body.isNone && decide (fn.origin = "")
  | none => false
theorem nxt_no : Extern.allNextRows.lookup "" = none := by kernel_rfl
theorem ext_run {f : FuncId} {fn : Func} {x : Operand} {ts : Array TypeId} {e : Array Value → Sem Value} (ho : o.op = .call { callee := .value (.func f), args := #[x], argTypes := ts }) (hf : P.funcs[f]? = some fn)
    (hn : (fn.name == "runtime.NumGoroutine") = false) (hb : fn.body.isNone = true) (h1 : Extern.findNext fn = none) (h2 : Extern.find fn = some e) (a : Act) (w : World) :
    (execOp a.eval o).run P w = ((e #[a.eval x]).run P w).andThen fun v w' => .ok (.value v) w' := by
  have hr := run_callFunc_extern hf hn hb h1 h2 #[a.eval x] w
  have hv : a.eval (.func f) = .func (.func f) #[] #[] := rfl
  rw [← hr]
  simp [execOp, ho, resolve, Deferred.ofValue, hv, invoke]
theorem p_fbits {f : FuncId} {x : Operand} {ts : Array TypeId} (ho : o.op = .call { callee := .value (.func f), args := #[x], argTypes := ts }) (hx : isExt P f "math.Float64bits" = true) : PopRun P o [x] .fbits := fun a θ w vs v hv h => by
  unfold isExt at hx
  split at hx
  · rename_i fn hf
    simp only [Bool.and_eq_true, decide_eq_true_eq] at hx
    obtain ⟨⟨hn, hb⟩, hg⟩ := hx
    have h1 : Extern.findNext fn = none := by simp [Extern.findNext, hn, hg, nxt_fb, nxt_no]
    have h2 : Extern.find fn = some Extern.MathFloatBits.float64bits := by simp [Extern.find, hn, gen_fb, typ_fb, all_fb']
    have hrun := ext_run ho hf (by rw [hn]; decide) hb h1 h2 a w
    unfold apo at hv
    split at hv <;> rename_i e <;> first | (cases e; done) | skip
    · have h3 := rels1 (l := []) h
      rename_i m
      cases q : (FloatKind.f64.format.read m).isNaN with
      | true => simp [q] at hv
      | false =>
        simp only [q, cond_false, Option.some.injEq] at hv; subst hv
        simp only [VRel] at h3
        obtain ⟨x', e1, hx⟩ := h3
        have hxx : m = x' := by
          rcases hx.of with e2 | ⟨p, _⟩
          · exact e2
          · unfold nanb at p; rw [q] at p; cases p
        subst hxx
        refine ⟨.int .u64 m, w, ?_, Chg.refl _ _, by simp only [VRel]⟩
        rw [hrun, e1]; rfl
    all_goals cases hv
  · cases hx
theorem p_ffrom {f : FuncId} {x : Operand} {ts : Array TypeId} (ho : o.op = .call { callee := .value (.func f), args := #[x], argTypes := ts }) (hx : isExt P f "math.Float64frombits" = true) : PopRun P o [x] .ffrom := fun a θ w vs v hv h => by
  unfold isExt at hx
  split at hx
  · rename_i fn hf
    simp only [Bool.and_eq_true, decide_eq_true_eq] at hx
    obtain ⟨⟨hn, hb⟩, hg⟩ := hx
    have h1 : Extern.findNext fn = none := by simp [Extern.findNext, hn, hg, nxt_ff, nxt_no]
    have h2 : Extern.find fn = some Extern.MathFloatBits.float64frombits := by simp [Extern.find, hn, gen_ff, typ_ff, all_ff']
    have hrun := ext_run ho hf (by rw [hn]; decide) hb h1 h2 a w
    unfold apo at hv
    split at hv <;> rename_i e <;> first | (cases e; done) | skip
    · have h3 := rels1 (l := []) h
      rename_i m
      simp only [Option.some.injEq] at hv; subst hv
      simp only [VRel] at h3
      refine ⟨.float .f64 m.toNat, w, ?_, Chg.refl _ _, by simp only [VRel]; exact ⟨_, rfl, .inl rfl⟩⟩
      rw [hrun, h3]; rfl
    all_goals cases hv
  · cases hx
end
end Go.Proofs.YtogkkamlmklpkaaDoor.Ab
