/- Each plain operation of the abstract machine does what the model's operation does (first part: values, memory, slices). No condition: lemmas only. -/
import Derived.Test.YtogkkamlmklpkaaDoorA3
import Derived.WalkKit
set_option linter.unusedVariables false
set_option linter.unusedSimpArgs false
namespace Go.Proofs.YtogkkamlmklpkaaDoor.Ab
open Go

/-! ### Operands -/
def constOk : Value → AV → Bool
  | .bool x, .b y => x == y
  | .int k n, .i k' m => IntKind.same k k' && n == m
  | .string x, .s y => decide (x = y)
  | .float .f64 x, .f .f64 y => Nat.beq x y
  | .complex .f64 x y, .c .f64 x' y' => Nat.beq x x' && Nat.beq y y'
  | .pointer none, .p none => true
  | .slice none 0 0, .sl none 0 (.ex 0) => true
  | .nilFunc, .nilfn => true
  | .nilIface, .nilif => true
  | _, _ => false
def okX (ng : Nat) : Operand → AX → Bool
  | .tmp t, .t n => Nat.beq t n
  | .const v, .k x => constOk v x
  | .func f, .k (.fn (.func g) [] []) => Nat.beq f g
  | .global g, .k (.p (some (id, 0))) => Nat.beq g id && Nat.blt g ng
  | _, _ => false

theorem same_eq {k k' : IntKind} (h : IntKind.same k k' = true) : k = k' := by
  cases k <;> cases k' <;> first | rfl | (simp [IntKind.same] at h)
theorem constOk_rel {θ : Th} {v : Value} {x : AV} (h : constOk v x = true) : VRel θ x v := by
  unfold constOk at h
  split at h <;> try simp only [VRel]
  · simp at h; rw [h]
  · simp only [Bool.and_eq_true, beq_iff_eq] at h; rw [same_eq h.1, h.2]
  · simp at h; rw [h]
  · exact ⟨_, rfl, .inl (beq_true.1 h).symm⟩
  · simp only [Bool.and_eq_true] at h
    exact ⟨_, _, rfl, .inl (beq_true.1 h.1).symm, .inl (beq_true.1 h.2).symm⟩
  · simp
  · cases h
theorem constOk_lp {v : Value} {x : AV} (h : constOk v x = true) : x.islp = false := by
  unfold constOk at h
  split at h <;> first | rfl | cases h

/-- A frozen slice is a slice. -/
theorem vs_slice {θ : Th} {len : Nat} {cap : ACap} {cs : List AV} {v : Value} (h : VRel θ (.vs len cap cs) v) : ∃ a c, v = .slice a len c ∧ len ≤ c ∧ (0 < len → a.isSome = true) ∧ cap.is c := by
  simp only [VRel] at h
  rcases h with ⟨b, o, cap', us, rfl, h1, h2, _⟩ | ⟨rfl, rfl, _, h2⟩
  · exact ⟨_, _, rfl, h1, fun _ => rfl, h2⟩
  · exact ⟨none, 0, rfl, Nat.le_refl _, fun z => by omega, h2⟩

section
variable {P : Program} {C : Cx} {θ : Th} {σ : Nat → Option Nat} {F : FS} {a : Act} {w : World}

/-- What the frame holds of some temporaries is what the facts say. -/
def AgT (F : FS) (fr : List (Nat × AV)) (l : List Nat) : Prop := ∀ t, t ∈ l → F.tmp t = fget fr t
theorem AgT.left {F : FS} {fr : List (Nat × AV)} {l l' : List Nat} (h : AgT F fr (l ++ l')) : AgT F fr l := fun t ht => h t (List.mem_append_left _ ht)
theorem AgT.right {F : FS} {fr : List (Nat × AV)} {l l' : List Nat} (h : AgT F fr (l ++ l')) : AgT F fr l' := fun t ht => h t (List.mem_append_right _ ht)

theorem xv_rel {x : Operand} {y : AX} {fr : List (Nat × AV)} {v : AV} (R : Rep P C θ σ F a w) (ok : okX C.ng x y = true) (hv : xv fr y = some v) (ag : AgT F fr y.rd) :
    TRel θ σ v (a.eval x) ∧ ∀ s off, v = .lp s off → (F.loc s).isSome = true := by
  unfold okX at ok
  split at ok
  · rename_i t n
    have e := beq_true.1 ok; subst e
    have h : F.tmp t = some v := by rw [ag t (by simp [AX.rd])]; exact hv
    exact ⟨R.t.tmp t v h, fun s off e => R.t.lpok t s off (by rw [h, e])⟩
  · simp only [xv, Option.some.injEq] at hv; subst hv
    exact ⟨TRel.of (constOk_rel ok), fun s off e => by subst e; have := constOk_lp ok; simp [AV.islp] at this⟩
  · simp only [xv, Option.some.injEq] at hv; subst hv
    have e := beq_true.1 ok; subst e
    exact ⟨TRel.of (by simp only [VRel, VRels]; exact ⟨#[], #[], rfl, rfl, rfl⟩), fun s off e => by cases e⟩
  · simp only [xv, Option.some.injEq] at hv; subst hv
    simp only [Bool.and_eq_true] at ok
    have e := beq_true.1 ok.1; subst e
    have hg := R.m.glob _ (by have := ok.2; rwa [Nat.blt_eq] at this)
    exact ⟨TRel.of (by simp only [VRel]; exact ⟨_, 0, 0, hg, rfl⟩), fun s off e => by cases e⟩
  · cases ok

theorem xn_of {fr : List (Nat × AV)} {y : AX} {v : AV} (h : xn fr y = some v) : xv fr y = some v ∧ v.islp = false := by
  unfold xn at h
  split at h
  · rename_i u hu
    cases e : u.islp with
    | true => simp [e] at h
    | false => simp [e] at h; subst h; exact ⟨hu, e⟩
  · cases h
theorem xn_rel {x : Operand} {y : AX} {fr : List (Nat × AV)} {v : AV} (R : Rep P C θ σ F a w) (ok : okX C.ng x y = true) (hv : xn fr y = some v) (ag : AgT F fr y.rd) : VRel θ v (a.eval x) := by
  obtain ⟨h1, h2⟩ := xn_of hv
  exact (xv_rel R ok h1 ag).1.val h2

/-- The operation runs to facts. -/
def StepTo (P : Program) (C : Cx) (θ : Th) (σ : Nat → Option Nat) (lo hi : Nat) (o : Oper) (a : Act) (w : World) (F' : FS) : Prop :=
  ∀ (K : Act → World → Prop) (Q : Exit → Act → World → Prop), (∀ θ' σ' a' w', Th.ext θ θ' lo hi → Rep P C θ' σ' F' a' w' → K a' w') → o.wp P a w K Q

theorem step_val {o : Oper} {u : Value} {w' : World} {θ' : Th} {σ' : Nat → Option Nat} {F' : FS} {lo hi : Nat} (hr : (execOp a.eval o).run P w = .ok (.value u) w') (hx : Th.ext θ θ' lo hi)
    (R' : Rep P C θ' σ' F' (a.put o.dst u) w') : StepTo P C θ σ lo hi o a w F' := fun K Q h => by
  unfold Oper.wp; rw [hr]
  exact h θ' σ' _ _ hx R'
theorem step_skip {o : Oper} {w' : World} {θ' : Th} {σ' : Nat → Option Nat} {F' : FS} {lo hi : Nat} (hr : (execOp a.eval o).run P w = .ok .skip w') (hx : Th.ext θ θ' lo hi)
    (R' : Rep P C θ' σ' F' (a.put o.dst undef) w') : StepTo P C θ σ lo hi o a w F' := fun K Q h => by
  unfold Oper.wp; rw [hr]
  exact h θ' σ' _ _ hx R'

/-- An operation that gives a value alone. -/
theorem step_pure {o : Oper} {u : Value} {w' : World} {v : AV} {n lo hi : Nat} (R : Rep P C θ σ F a w) (hd : ∀ t, o.dst = some t → t < C.N) (hr : (execOp a.eval o).run P w = .ok (.value u) w')
    (hw : Chg (fun _ => False) w w') (hv : TRel θ σ v u) (hl : ∀ s off, v = .lp s off → (F.loc s).isSome = true) : StepTo P C θ σ lo hi o a w (F.put o.dst (Eff.v v n)) :=
  step_val hr (Th.ext_refl _ _ _) ⟨R.m.same (FS.put_v_loc ..) (FS.put_v_hp ..) hw,
    R.t.step (Th.le_refl _) (fun _ _ => rfl) hd (fun x hx => by cases hx; exact hv) (fun s off e => by
      simp only [Eff.v, Option.some.injEq] at e
      simp only [Eff.v, lget_nil, lget_cns, Option.none_or]; exact hl s off e)⟩
theorem step_pure' {o : Oper} {u : Value} {v : AV} {n lo hi : Nat} (R : Rep P C θ σ F a w) (hd : ∀ t, o.dst = some t → t < C.N) (hr : (execOp a.eval o).run P w = .ok (.value u) w)
    (hv : VRel θ v u) : StepTo P C θ σ lo hi o a w (F.put o.dst (Eff.v v n)) :=
  step_pure R hd hr (Chg.refl _ _) (TRel.of hv) (fun s off e => by subst e; simp [VRel] at hv)

/-! ### Loads and stores of rows of cells -/
theorem loadCellsFrom_run {P : Program} {w : World} {b off : Nat} : ∀ (n i : Nat) (acc : Array Value) (us : List Value), us.length = n → (∀ j u, us[j]? = some u → w.cell? ⟨b, off + (i + j), none⟩ = some u) →
    (loadCellsFrom ⟨b, off, none⟩ i n acc).run P w = .ok (acc ++ us.toArray) w
  | 0, i, acc, us, hl, _ => by
    have : us = [] := List.eq_nil_of_length_eq_zero hl
    subst this
    simp [loadCellsFrom]
  | n + 1, i, acc, u :: us, hl, h => by
    have h0 := h 0 u rfl
    have hadd : (⟨b, off, none⟩ : Addr).add i = ⟨b, off + i, none⟩ := by
      unfold Addr.add; split
      · rename_i e; simp [e]
      · rfl
    simp only [Nat.add_zero] at h0
    simp only [loadCellsFrom, Sem.run_bind, run_load, hadd, h0, Result.andThen_ok]
    rw [loadCellsFrom_run n (i + 1) (acc.push u) us (by simpa using hl) (fun j x hx => by
      have := h (j + 1) x (by simpa using hx)
      rw [show i + 1 + j = i + (j + 1) by omega]; exact this)]
    simp
  | n + 1, i, acc, [], hl, _ => by simp at hl

theorem run_isAgg {t : TypeId} {d : TypeDesc} (h : P.underlying t = some d) : (isAgg t).run P w = .ok (match d with | .struct _ | .array _ _ => true | _ => false) w := by
  unfold isAgg
  simp only [Sem.run_bind, run_underlying h, Result.andThen_ok]
  cases d <;> rfl
theorem run_sizeOf {t : TypeId} {i : TypeInfo} (h : P.info? t = some i) : (sizeOf t).run P w = .ok i.size w := by
  simp [sizeOf, typeInfo, h]

/-- How a type's values lie: in one cell, or as a row. -/
def lie (P : Program) (t : TypeId) : Option (Option Nat) :=
  match P.underlying t, P.info? t with
  | some (.struct _), some i => some (some i.size)
  | some (.array _ _), some i => some (some i.size)
  | some _, some _ => some none
  | _, _ => none
theorem lie_agg {t : TypeId} {n : Nat} (h : lie P t = some (some n)) : (isAgg t).run P w = .ok true w ∧ (sizeOf t).run P w = .ok n w := by
  unfold lie at h
  split at h
  · rename_i fs i h1 h2; cases h; exact ⟨run_isAgg h1, run_sizeOf h2⟩
  · rename_i fs i h1 h2; cases h; exact ⟨run_isAgg h1, run_sizeOf h2⟩
  · cases h
  · cases h
theorem lie_one {t : TypeId} (h : lie P t = some none) : (isAgg t).run P w = .ok false w := by
  unfold lie at h
  split at h
  · cases h
  · cases h
  · rename_i d i h1 h2 hs ha
    rw [run_isAgg hs]
    cases d <;> first | rfl | exact absurd rfl (h1 _) | exact absurd rfl (h2 _ _)
  · cases h

theorem isAgg_run_ok {t : TypeId} {x : Bool} (h : ∀ w, (isAgg t).run P w = .ok x w) {w : World} : (isAgg t).run P w = .ok x w := h w

/-- A load out of cells that stand for abstract ones. -/
theorem loadVar_run {t : TypeId} {sz : Option Nat} {b off : Nat} {cs : List AV} {v : AV} (hs : lie P t = some sz) (hv : apart_ cs off sz = some v)
    {o : Nat} (hc : ∀ (i : Nat) (x : AV), cs[i]? = some x → ∃ u, w.cell? ⟨b, o + i, none⟩ = some u ∧ VRel θ x u) :
    ∃ u, (loadVar t ⟨b, o + off, none⟩).run P w = .ok u w ∧ VRel θ v u := by
  cases sz with
  | none =>
    simp only [apart_] at hv
    obtain ⟨u, hu, hr⟩ := hc off v hv
    refine ⟨u, ?_, hr⟩
    simp only [loadVar, Sem.run_bind, lie_one hs, Result.andThen_ok, Bool.false_eq_true, if_false, run_load, hu]
  | some n =>
    simp only [apart_] at hv
    cases hle : Nat.ble (off + n) cs.length with
    | false => simp [hle] at hv
    | true =>
      simp only [hle, cond_true, Option.some.injEq] at hv
      subst hv
      have hle' := Nat.le_of_ble_eq_true hle
      have : ∀ m, m ≤ n → ∃ us : List Value, us.length = m ∧ (∀ (j : Nat) u, us[j]? = some u → w.cell? ⟨b, o + off + (0 + j), none⟩ = some u) ∧ VRels θ ((cs.drop off).take m) us := by
        intro m
        induction m with
        | zero => intro _; exact ⟨[], rfl, by simp, by simp [VRels]⟩
        | succ m ih =>
          intro hm
          obtain ⟨us, h1, h2, h3⟩ := ih (by omega)
          have hlt : off + m < cs.length := by omega
          obtain ⟨u, hu, hr⟩ := hc (off + m) cs[off + m] (List.getElem?_eq_getElem hlt)
          refine ⟨us ++ [u], by simp [h1], fun j x hx => ?_, ?_⟩
          · rw [List.getElem?_append] at hx
            split at hx
            · exact h2 j x hx
            · rename_i hj
              have : j = m := by
                have := (List.getElem?_eq_some_iff.1 hx).1
                simp at this; omega
              subst this
              simp [h1] at hx; subst hx
              rw [show o + off + (0 + j) = o + (off + j) by omega]; exact hu
          · have e : (cs.drop off).take (m + 1) = (cs.drop off).take m ++ [cs[off + m]] := by
              rw [List.take_succ_eq_append_getElem (by simp; omega)]
              simp
            rw [e]
            exact h3.append (by simp only [VRels]; exact ⟨u, [], rfl, hr, rfl⟩)
      obtain ⟨us, h1, h2, h3⟩ := this n (Nat.le_refl _)
      refine ⟨.agg us.toArray, ?_, by simp only [VRel]; exact ⟨us.toArray, rfl, by simpa using h3⟩⟩
      simp only [loadVar, Sem.run_bind, (lie_agg hs).1, (lie_agg (w := w) hs).2, Result.andThen_ok, if_true, loadCells, loadCellsFrom_run n 0 #[] us h1 h2, Sem.run_pure]
      simp

theorem apart_lp {θ : Th} {σ : Nat → Option Nat} {v : AV} {u : Value} (h : VRel θ v u) : ∀ s off, v = .lp s off → (F.loc s).isSome = true := fun s off e => by subst e; simp [VRel] at h

end
end Go.Proofs.YtogkkamlmklpkaaDoor.Ab
