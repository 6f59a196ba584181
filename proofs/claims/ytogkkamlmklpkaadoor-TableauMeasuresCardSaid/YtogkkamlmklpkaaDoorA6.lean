/- Each plain operation of the abstract machine does what the model's operation does (third part). No condition: lemmas only. -/
import Derived.Test.YtogkkamlmklpkaaDoorA5
set_option linter.unusedVariables false
set_option linter.unusedSimpArgs false
namespace Go.Proofs.YtogkkamlmklpkaaDoor.Ab
open Go

section
variable {P : Program} {C : Cx} {O : Orc} {s : AS} {o : Oper} {k : Eff → Foot → Option Res} {r : Res}

theorem run_bin {op : BinOp} {x y v : AV} {θ : Th} {a b : Value} {w : World} {t : TypeId} (h : abin op x y = some v) (ha : VRel θ x a) (hb : VRel θ y b) :
    ∃ u, (binOp op t a b).run P w = .ok u w ∧ VRel θ v u := by
  unfold abin at h
  split at h
  · rename_i k1 m k2 n
    simp only [VRel] at ha hb
    subst ha; subst hb
    cases hs : isShift op with
    | true =>
      simp only [hs, cond_true] at h
      unfold ashift at h
      split at h
      · cases h
      · rename_i hneg
        cases op <;> simp only [isShift] at hs <;> first | (cases hs; done) | skip
        all_goals
          simp only [Option.some.injEq] at h
          subst h
          exact ⟨_, by simp [binOp, Op.shift, hneg]; rfl, by simp [VRel]⟩
    | false =>
      simp only [hs, cond_false] at h
      cases hk : IntKind.same k1 k2 with
      | false => simp [hk] at h
      | true =>
        have hk := same_eq hk
        subst hk
        have hkk : IntKind.same k1 k1 = true := by cases k1 <;> rfl
        simp only [hkk, cond_true] at h
        unfold aint at h
        cases op <;> simp only [isShift] at hs <;> first | (cases hs; done) | skip
        all_goals
          simp only at h
          first
          | (cases h; done)
          | (simp only [Option.some.injEq] at h; subst h; refine ⟨_, ?_, by simp only [VRel]; rfl⟩; simp [binOp, Op.intArith, Op.intCmp, Op.intBits, bitop]; done)
          | (split at h
             · cases h
             · rename_i h0
               simp only [Option.some.injEq] at h; subst h; exact ⟨_, by simp [binOp, Op.intDiv, h0]; rfl, by simp [VRel]⟩)
  · rename_i m n
    simp only [VRel] at ha hb
    subst ha; subst hb
    cases op <;> simp only at h <;> first | (cases h; done) | skip
    all_goals
      simp only [Option.some.injEq] at h
      subst h
      exact ⟨_, by simp [binOp, Op.stringOp]; rfl, by simp [VRel]⟩
  · cases h

theorem run_eqGuard {op : BinOp} {t : TypeId} {x y : Operand} {a b : Value} {w : World} (h : a ≠ .nilIface ∧ (∀ c, a ≠ .agg c)) : (eqGuard op t x y a b).run P w = .ok () w := by
  unfold eqGuard
  cases op <;> simp only [reduceCtorEq] <;> try rfl
  all_goals
    obtain ⟨h1, h2⟩ := h
    cases a <;> try rfl
    · exact absurd rfl h1
    · exact absurd rfl (h2 _)

theorem abin_noagg {op : BinOp} {x y v : AV} {θ : Th} {a : Value} (h : abin op x y = some v) (ha : VRel θ x a) : a ≠ .nilIface ∧ (∀ c, a ≠ .agg c) := by
  unfold abin at h
  split at h
  · simp only [VRel] at ha; subst ha; exact ⟨by simp, by simp⟩
  · simp only [VRel] at ha; subst ha; exact ⟨by simp, by simp⟩
  · cases h

theorem s_bin {op : BinOp} {t t' : TypeId} {x y : AX} {x' y' : Operand} (ho : o.op = .binOp op t x' y' t') (ok : okX C.ng x' x = true ∧ okX C.ng y' y = true)
    (h : evOp O C.fl o.dst (.bin op x y) s k = some r) : OpS P C s o (.bin op x y) k r := by
  simp only [evOp_mv, evOp_nchk, evOp_pop, evOp_pick, evOp_alloc_true, evOp_alloc_false, evOp_box_true, evOp_box_false, evOp_build, evOp_bslice, evOp_load, evOp_store, evOp_bin, evOp_eqs, evOp_eqb, evOp_eqnil, evOp_un, evOp_conv, evOp_fadr, evOp_fld, evOp_iadr, evOp_iadra, evOp_idx, evOp_idxs, evOp_slc, evOp_ext, evOp_mkf, evOp_mks, evOp_call, evOp_len_false, evOp_len_true, evOp_app, evOp_mm] at h
  split at h
  · rename_i v hv
    split at h
    · rename_i u hu
      split at h
      · rename_i z hz
        refine ⟨_, _, h, Nat.le_refl _, fun F θ σ a w R hd ag _ _ _ => ?_⟩
        have h1 := xn_rel R ok.1 hv ag.left
        have h2 := xn_rel R ok.2 hu ag.right
        obtain ⟨q, g1, g2⟩ := run_bin (P := P) (w := w) (t := t) hz h1 h2
        exact step_pure' R hd (by simp [execOp, ho, run_eqGuard (P := P) (abin_noagg hz h1), g1]) g2
      · cases h
    · cases h
  · cases h

/-! ### Comparisons -/
def scalarT (P : Program) (t : TypeId) (isb : Bool) : Bool :=
  match P.underlying t with
  | some .bool => isb
  | some (.int _) => !isb
  | _ => false
/-- Fields of one cell each, in a row, each an integer or a bool. -/
def flatFields (P : Program) : Nat → List Field → List Bool → Bool
  | _, [], [] => true
  | j, f :: fs, b :: bs => decide (f.name ≠ "_") && Nat.beq f.offset j && scalarT P f.type b && flatFields P (j + 1) fs bs
  | _, _, _ => false
def eqsOk (P : Program) (t : TypeId) (bs : List Bool) : Bool :=
  match P.underlying t with
  | some (.struct fs) => flatFields P 0 fs.toList bs && !P.stoodInHeld t && !P.eqGuardType P.depth t
  | _ => false

theorem scalarT_agg {t : TypeId} {b : Bool} {w : World} (h : scalarT P t b = true) : (isAgg t).run P w = .ok false w := by
  unfold scalarT at h
  split at h
  · rename_i e; rw [run_isAgg e]
  · rename_i e; rw [run_isAgg e]
  · cases h
theorem scalarT_int {t : TypeId} (h : scalarT P t false = true) : ∃ k, P.underlying t = some (.int k) := by
  unfold scalarT at h
  split at h
  · cases h
  · rename_i k e; exact ⟨k, e⟩
  · cases h
theorem scalarT_bool {t : TypeId} (h : scalarT P t true = true) : P.underlying t = some .bool := by
  unfold scalarT at h
  split at h
  · rename_i e; exact e
  · simp at h
  · cases h

theorem aeqs_run {θ : Th} {w : World} {d : Nat} (xs ys : Array Value) : ∀ (fs : List Field) (bs : List Bool) (j : Nat) (a b : List AV) (res : Bool), flatFields P j fs bs = true → aeqs bs a b = some res →
    VRels θ a (xs.toList.drop j) → VRels θ b (ys.toList.drop j) → (Op.eqFields (d + 1) xs ys fs).run P w = .ok res w
  | [], [], j, a, b, res, _, h, _, _ => by
    cases a with
    | nil => cases b with
      | nil =>
        simp only [aeqs, Option.some.injEq] at h; subst h
        simp [Op.eqFields]
      | cons y b => simp [aeqs] at h
    | cons x a => simp [aeqs] at h
  | f :: fs, b0 :: bs, j, a, b, res, hf, h, ha, hb => by
    simp only [flatFields, Bool.and_eq_true, decide_eq_true_eq] at hf
    obtain ⟨⟨⟨f1, f2⟩, f3⟩, f5⟩ := hf
    have f2 := beq_true.1 f2
    have get : ∀ {zs : Array Value} {z : AV} {c : List AV}, VRels θ (z :: c) (zs.toList.drop j) → ∃ u, zs[j]? = some u ∧ VRel θ z u ∧ VRels θ c (zs.toList.drop (j + 1)) := fun {zs z c} hz => by
      simp only [VRels] at hz
      obtain ⟨u, us, e, h1, h2⟩ := hz
      have hlt : j < zs.toList.length := by
        rcases Nat.lt_or_ge j zs.toList.length with q | q
        · exact q
        · rw [List.drop_eq_nil_of_le q] at e; cases e
      rw [List.drop_eq_getElem_cons hlt] at e
      cases e
      exact ⟨_, by simp at hlt; simp [hlt], h1, h2⟩
    have part1 : ∀ {zs : Array Value} {z : Value}, zs[j]? = some z → (part f.type zs f.offset).run P w = .ok z w := fun {zs z} hz => by
      simp only [part, Sem.run_bind, scalarT_agg f3, Result.andThen_ok, Bool.false_eq_true, if_false, f2, hz, Sem.run_pure]
    have step : ∀ {u q : Value} (c : Bool), xs[j]? = some u → ys[j]? = some q → (Op.equalIn (d + 1) f.type u q).run P w = .ok c w → (Op.eqFields (d + 1) xs ys (f :: fs)).run P w = if c = true then (Op.eqFields (d + 1) xs ys fs).run P w else .ok false w := fun {u q} c hu hq hc => by
      simp only [Op.eqFields, f1, ne_eq, not_false_eq_true, if_true, Sem.run_bind, part1 hu, part1 hq, Result.andThen_ok, hc]
      cases c <;> simp
    unfold aeqs at h
    split at h
    · rename_i e; contradiction
    · rename_i bs' k1 m1 xs' k2 m2 ys' e
      cases e
      obtain ⟨u, hu, hru, ha'⟩ := get ha
      obtain ⟨q, hq, hrq, hb'⟩ := get hb
      simp only [VRel] at hru hrq
      subst hru; subst hrq
      cases hk : IntKind.same k1 k2 with
      | false => simp [hk] at h
      | true =>
        have hke := same_eq hk
        subst hke
        simp only [hk, cond_true] at h
        obtain ⟨k', e'⟩ := scalarT_int f3
        rw [step _ hu hq (run_equalIn_int w d f.type k1 k' m1 m2 e')]
        cases hm : m1 == m2 with
        | true =>
          simp only [hm, cond_true] at h
          simp only [if_true]
          exact aeqs_run xs ys fs bs (j + 1) xs' ys' res f5 h ha' hb'
        | false =>
          simp only [hm, cond_false, Option.some.injEq] at h
          subst h; simp
    · rename_i bs' m1 xs' m2 ys' e
      cases e
      obtain ⟨u, hu, hru, ha'⟩ := get ha
      obtain ⟨q, hq, hrq, hb'⟩ := get hb
      simp only [VRel] at hru hrq
      subst hru; subst hrq
      rw [step _ hu hq (run_equalIn_bool' w d f.type m1 m2 (scalarT_bool f3))]
      cases hm : m1 == m2 with
      | true =>
        simp only [hm, cond_true] at h
        simp only [if_true]
        exact aeqs_run xs ys fs bs (j + 1) xs' ys' res f5 h ha' hb'
      | false =>
        simp only [hm, cond_false, Option.some.injEq] at h
        subst h; simp
    · cases h
  | [], _ :: _, _, _, _, _, hf, _, _, _ => by simp [flatFields] at hf
  | _ :: _, [], _, _, _, _, hf, _, _, _ => by simp [flatFields] at hf

theorem s_eqs {neg : Bool} {bs : List Bool} {t t' : TypeId} {x y : AX} {x' y' : Operand} (ho : o.op = .binOp (if neg then .neq else .eql) t x' y' t') (ok : okX C.ng x' x = true ∧ okX C.ng y' y = true) (hq : eqsOk P t bs = true)
    (h : evOp O C.fl o.dst (.eqs neg bs x y) s k = some r) : OpS P C s o (.eqs neg bs x y) k r := by
  simp only [evOp_mv, evOp_nchk, evOp_pop, evOp_pick, evOp_alloc_true, evOp_alloc_false, evOp_box_true, evOp_box_false, evOp_build, evOp_bslice, evOp_load, evOp_store, evOp_bin, evOp_eqs, evOp_eqb, evOp_eqnil, evOp_un, evOp_conv, evOp_fadr, evOp_fld, evOp_iadr, evOp_iadra, evOp_idx, evOp_idxs, evOp_slc, evOp_ext, evOp_mkf, evOp_mks, evOp_call, evOp_len_false, evOp_len_true, evOp_app, evOp_mm] at h
  split at h
  · rename_i a1 hv
    split at h
    · rename_i b1 hu
      split at h
      · rename_i z hz
        refine ⟨_, _, h, Nat.le_refl _, fun F θ σ a w R hd ag _ _ _ => ?_⟩
        have h1 := xn_rel R ok.1 hv ag.left
        have h2 := xn_rel R ok.2 hu ag.right
        simp only [VRel] at h1 h2
        obtain ⟨c1, e1, h1⟩ := h1
        obtain ⟨c2, e2, h2⟩ := h2
        unfold eqsOk at hq
        split at hq
        · rename_i fs hfs
          simp only [Bool.and_eq_true, Bool.not_eq_true'] at hq
          obtain ⟨⟨q1, q2⟩, q3⟩ := hq
          have hfo : P.fieldsOf t = fs := by simp [Program.fieldsOf, hfs]
          have hrun : (Op.equal t (.agg c1) (.agg c2)).run P w = .ok z w := by
            unfold Op.equal Op.maxDepth
            rw [run_equalIn_struct w 9999 t c1 c2 (by rw [hfo]; exact hfs) q2, hfo]
            exact aeqs_run c1 c2 fs.toList bs 0 a1 b1 z q1 hz (by simpa using h1) (by simpa using h2)
          have hgd : ∀ op, (eqGuard op t x' y' (.agg c1) (.agg c2)).run P w = .ok () w := fun op => by
            unfold eqGuard
            cases op <;> simp [q3]
          refine step_pure' (u := .bool (bif neg then !z else z)) R hd ?_ (by simp [VRel])
          cases neg <;> simp [execOp, ho, e1, e2, hgd, binOp, hrun]
        · cases hq
      · cases h
    · cases h
  · cases h

theorem s_eqb {neg : Bool} {t t' : TypeId} {x y : AX} {x' y' : Operand} (ho : o.op = .binOp (if neg then .neq else .eql) t x' y' t') (ok : okX C.ng x' x = true ∧ okX C.ng y' y = true) (hq : P.underlying t = some .bool)
    (h : evOp O C.fl o.dst (.eqb neg x y) s k = some r) : OpS P C s o (.eqb neg x y) k r := by
  simp only [evOp_mv, evOp_nchk, evOp_pop, evOp_pick, evOp_alloc_true, evOp_alloc_false, evOp_box_true, evOp_box_false, evOp_build, evOp_bslice, evOp_load, evOp_store, evOp_bin, evOp_eqs, evOp_eqb, evOp_eqnil, evOp_un, evOp_conv, evOp_fadr, evOp_fld, evOp_iadr, evOp_iadra, evOp_idx, evOp_idxs, evOp_slc, evOp_ext, evOp_mkf, evOp_mks, evOp_call, evOp_len_false, evOp_len_true, evOp_app, evOp_mm] at h
  split at h
  · rename_i a1 hv
    split at h
    · rename_i b1 hu
      refine ⟨_, _, h, Nat.le_refl _, fun F θ σ a w R hd ag _ _ _ => ?_⟩
      have h1 := xn_rel R ok.1 hv ag.left
      have h2 := xn_rel R ok.2 hu ag.right
      simp only [VRel] at h1 h2
      have hrun : (Op.equal t (.bool a1) (.bool b1)).run P w = .ok (a1 == b1) w := by
        unfold Op.equal Op.maxDepth
        exact run_equalIn_bool' w 9999 t a1 b1 hq
      have hgd : ∀ op, (eqGuard op t x' y' (.bool a1) (.bool b1)).run P w = .ok () w := fun op => run_eqGuard ⟨by simp, by simp⟩
      refine step_pure' (u := .bool (bif neg then !(a1 == b1) else (a1 == b1))) R hd ?_ (by simp [VRel])
      cases neg <;> simp [execOp, ho, h1, h2, hgd, binOp, hrun]
    · cases h
  · cases h

theorem s_eqnil {neg : Bool} {t t' e : TypeId} {x : AX} {x' : Operand} (ho : o.op = .binOp (if neg then .neq else .eql) t x' (.const (.slice none 0 0)) t') (ok : okX C.ng x' x = true) (hq : P.underlying t = some (.slice e))
    (h : evOp O C.fl o.dst (.eqnil neg x) s k = some r) : OpS P C s o (.eqnil neg x) k r := by
  simp only [evOp_mv, evOp_nchk, evOp_pop, evOp_pick, evOp_alloc_true, evOp_alloc_false, evOp_box_true, evOp_box_false, evOp_build, evOp_bslice, evOp_load, evOp_store, evOp_bin, evOp_eqs, evOp_eqb, evOp_eqnil, evOp_un, evOp_conv, evOp_fadr, evOp_fld, evOp_iadr, evOp_iadra, evOp_idx, evOp_idxs, evOp_slc, evOp_ext, evOp_mkf, evOp_mks, evOp_call, evOp_len_false, evOp_len_true, evOp_app, evOp_mm] at h
  split at h
  · rename_i a1 n1 c1 hv
    refine ⟨_, _, h, Nat.le_refl _, fun F θ σ a w R hd ag _ _ _ => ?_⟩
    have h1 := xn_rel R ok hv ag
    have key : ∃ a' n' c', a.eval x' = .slice a' n' c' ∧ a'.isSome = a1.isSome := by
      cases a1 with
      | none => simp only [VRel] at h1; exact ⟨_, _, _, h1.2.2, rfl⟩
      | some p => obtain ⟨id, off⟩ := p; simp only [VRel] at h1; obtain ⟨b, o, c, cap', _, e, _⟩ := h1; exact ⟨_, _, _, e, rfl⟩
    obtain ⟨a', n', c', he, hs⟩ := key
    have gen : ∀ d, (Op.equalIn (d + 1) t (.slice a' n' c') (.slice none 0 0)).run P w = .ok (!a'.isSome) w := fun d => by
      cases a' <;> simp [Op.equalIn, run_underlying hq]
    have hrun : (Op.equal t (.slice a' n' c') (.slice none 0 0)).run P w = .ok (!a1.isSome) w := by rw [← hs]; exact gen 9999
    have hc : a.eval (.const (.slice none 0 0)) = .slice none 0 0 := rfl
    have hgd : ∀ op, (eqGuard op t x' (.const (.slice none 0 0)) (.slice a' n' c') (.slice none 0 0)).run P w = .ok () w := fun op => run_eqGuard ⟨by simp, by simp⟩
    refine step_pure' (u := .bool (bif neg then a1.isSome else !a1.isSome)) R hd ?_ (by simp [VRel])
    cases neg <;> simp [execOp, ho, he, hc, hgd, binOp, hrun]
  · rename_i len1 c1 cs1 hv
    cases hl : Nat.blt 0 len1 with
    | false => rw [hl] at h; cases h
    | true =>
      rw [hl, cond_true] at h
      have hl' : 0 < len1 := by rw [Nat.blt_eq] at hl; exact hl
      refine ⟨_, _, h, Nat.le_refl _, fun F θ σ a w R hd ag _ _ _ => ?_⟩
      obtain ⟨a', c', he, _, hs, _⟩ := vs_slice (xn_rel R ok hv ag)
      have hs := hs hl'
      have gen : ∀ d, (Op.equalIn (d + 1) t (.slice a' len1 c') (.slice none 0 0)).run P w = .ok false w := fun d => by
        cases a' <;> simp [Op.equalIn, run_underlying hq] at hs ⊢
      have hrun : (Op.equal t (.slice a' len1 c') (.slice none 0 0)).run P w = .ok false w := gen 9999
      have hc : a.eval (.const (.slice none 0 0)) = .slice none 0 0 := rfl
      have hgd : ∀ op, (eqGuard op t x' (.const (.slice none 0 0)) (.slice a' len1 c') (.slice none 0 0)).run P w = .ok () w := fun op => run_eqGuard ⟨by simp, by simp⟩
      refine step_pure' (u := .bool neg) R hd ?_ (by simp [VRel])
      cases neg <;> simp [execOp, ho, he, hc, hgd, binOp, hrun]
  · cases h

/-! ### Values -/
theorem s_un {op : UnOp} {t : TypeId} {x : AX} {x' : Operand} (ho : o.op = .unOp op t x') (ok : okX C.ng x' x = true)
    (h : evOp O C.fl o.dst (.un op x) s k = some r) : OpS P C s o (.un op x) k r := by
  simp only [evOp_mv, evOp_nchk, evOp_pop, evOp_pick, evOp_alloc_true, evOp_alloc_false, evOp_box_true, evOp_box_false, evOp_build, evOp_bslice, evOp_load, evOp_store, evOp_bin, evOp_eqs, evOp_eqb, evOp_eqnil, evOp_un, evOp_conv, evOp_fadr, evOp_fld, evOp_iadr, evOp_iadra, evOp_idx, evOp_idxs, evOp_slc, evOp_ext, evOp_mkf, evOp_mks, evOp_call, evOp_len_false, evOp_len_true, evOp_app, evOp_mm] at h
  split at h
  · rename_i v hv
    split at h
    · rename_i z hz
      refine ⟨_, _, h, Nat.le_refl _, fun F θ σ a w R hd ag _ _ _ => ?_⟩
      have h1 := xn_rel R ok hv ag
      unfold aun at hz
      split at hz
      · simp only [Option.some.injEq] at hz; subst hz
        simp only [VRel] at h1
        exact step_pure' R hd (by simp [execOp, ho, h1, Op.unary, Op.intArith]; rfl) (by simp [VRel])
      · simp only [Option.some.injEq] at hz; subst hz
        simp only [VRel] at h1
        exact step_pure' R hd (by simp [execOp, ho, h1, Op.unary, Op.intBits]; rfl) (by simp [VRel, bitop])
      · simp only [Option.some.injEq] at hz; subst hz
        simp only [VRel] at h1
        exact step_pure' R hd (by simp [execOp, ho, h1, Op.unary]; rfl) (by simp [VRel])
      · cases hz
    · cases h
  · cases h

theorem s_conv {kd : IntKind} {src dst : TypeId} {x : AX} {x' : Operand} (ho : o.op = .convert src dst x') (ok : okX C.ng x' x = true) (h1 : (P.underlying src).isSome = true) (h2 : P.underlying dst = some (.int kd))
    (h : evOp O C.fl o.dst (.conv kd x) s k = some r) : OpS P C s o (.conv kd x) k r := by
  simp only [evOp_mv, evOp_nchk, evOp_pop, evOp_pick, evOp_alloc_true, evOp_alloc_false, evOp_box_true, evOp_box_false, evOp_build, evOp_bslice, evOp_load, evOp_store, evOp_bin, evOp_eqs, evOp_eqb, evOp_eqnil, evOp_un, evOp_conv, evOp_fadr, evOp_fld, evOp_iadr, evOp_iadra, evOp_idx, evOp_idxs, evOp_slc, evOp_ext, evOp_mkf, evOp_mks, evOp_call, evOp_len_false, evOp_len_true, evOp_app, evOp_mm] at h
  split at h
  · rename_i kx n hv
    refine ⟨_, _, h, Nat.le_refl _, fun F θ σ a w R hd ag _ _ _ => ?_⟩
    have h3 := xn_rel R ok hv ag
    simp only [VRel] at h3
    obtain ⟨u, hu⟩ := Option.isSome_iff_exists.1 h1
    refine step_pure' (u := .int kd (kd.wrap n)) R hd ?_ (by simp [VRel])
    cases u <;> simp [execOp, ho, h3, convert, run_underlying hu, run_underlying h2, Conv.intToInt]
  · cases h

theorem s_ext {x : AX} {x' : Operand} {j : Nat} (ho : o.op = .extract x' j) (ok : okX C.ng x' x = true)
    (h : evOp O C.fl o.dst (.ext x j) s k = some r) : OpS P C s o (.ext x j) k r := by
  simp only [evOp_mv, evOp_nchk, evOp_pop, evOp_pick, evOp_alloc_true, evOp_alloc_false, evOp_box_true, evOp_box_false, evOp_build, evOp_bslice, evOp_load, evOp_store, evOp_bin, evOp_eqs, evOp_eqb, evOp_eqnil, evOp_un, evOp_conv, evOp_fadr, evOp_fld, evOp_iadr, evOp_iadra, evOp_idx, evOp_idxs, evOp_slc, evOp_ext, evOp_mkf, evOp_mks, evOp_call, evOp_len_false, evOp_len_true, evOp_app, evOp_mm] at h
  split at h
  · rename_i vs hv
    split at h
    · rename_i v hj
      refine ⟨_, _, h, Nat.le_refl _, fun F θ σ a w R hd ag _ _ _ => ?_⟩
      have h3 := xn_rel R ok hv ag
      simp only [VRel] at h3
      obtain ⟨ds, e, h3⟩ := h3
      obtain ⟨u, hu, hr⟩ := h3.get hj
      exact step_pure' (u := u) R hd (by simp at hu; simp [execOp, ho, e, Instr.extract, hu]) hr
    · cases h
  · cases h

theorem xns_rel {F : FS} {θ : Th} {σ : Nat → Option Nat} {a : Act} {w : World} (R : Rep P C θ σ F a w) {fr : List (Nat × AV)} : ∀ (l : List Operand) (l' : List AX) (vs : List AV), l.length = l'.length → (∀ p ∈ l.zip l', okX C.ng p.1 p.2 = true) →
    xns fr l' = some vs → AgT F fr (l'.flatMap AX.rd) → VRels θ vs (l.map a.eval)
  | [], [], vs, _, _, h, _ => by simp only [xns, Option.some.injEq] at h; subst h; simp [VRels]
  | x :: l, y :: l', vs, hl, ok, h, ag => by
    simp only [xns] at h
    split at h
    · rename_i v hv
      split at h
      · rename_i us hus
        simp only [Option.some.injEq] at h; subst h
        simp only [List.flatMap_cons] at ag
        simp only [List.map_cons, VRels]
        exact ⟨_, _, rfl, xn_rel R (ok (x, y) (by simp)) hv ag.left, xns_rel R l l' us (by simpa using hl) (fun p hp => ok p (by simp [hp])) hus ag.right⟩
      · cases h
    · cases h
  | [], _ :: _, _, hl, _, _, _ => by simp at hl
  | _ :: _, [], _, hl, _, _, _ => by simp at hl

/-- Operands, one by one. -/
def okXs (ng : Nat) : List Operand → List AX → Bool
  | [], [] => true
  | x :: l, y :: l' => okX ng x y && okXs ng l l'
  | _, _ => false
theorem okXs_of {ng : Nat} : ∀ {l : List Operand} {l' : List AX}, okXs ng l l' = true → l.length = l'.length ∧ ∀ p ∈ l.zip l', okX ng p.1 p.2 = true
  | [], [], _ => ⟨rfl, by simp⟩
  | x :: l, y :: l', h => by
    simp only [okXs, Bool.and_eq_true] at h
    obtain ⟨h1, h2⟩ := okXs_of h.2
    refine ⟨by simp [h1], fun p hp => ?_⟩
    simp only [List.zip_cons_cons, List.mem_cons] at hp
    rcases hp with rfl | hp
    · exact h.1
    · exact h2 p hp
  | [], _ :: _, h => by simp [okXs] at h
  | _ :: _, [], h => by simp [okXs] at h

theorem s_mkf {fn : Fn} {f1 c1 : Array Operand} {f2 c2 : List AX} (ho : o.op = .makeFunc fn f1 c1) (ok : okXs C.ng f1.toList f2 = true ∧ okXs C.ng c1.toList c2 = true)
    (h : evOp O C.fl o.dst (.mkf fn f2 c2) s k = some r) : OpS P C s o (.mkf fn f2 c2) k r := by
  simp only [evOp_mv, evOp_nchk, evOp_pop, evOp_pick, evOp_alloc_true, evOp_alloc_false, evOp_box_true, evOp_box_false, evOp_build, evOp_bslice, evOp_load, evOp_store, evOp_bin, evOp_eqs, evOp_eqb, evOp_eqnil, evOp_un, evOp_conv, evOp_fadr, evOp_fld, evOp_iadr, evOp_iadra, evOp_idx, evOp_idxs, evOp_slc, evOp_ext, evOp_mkf, evOp_mks, evOp_call, evOp_len_false, evOp_len_true, evOp_app, evOp_mm] at h
  split at h
  · rename_i vs hvs
    split at h
    · rename_i us hus
      refine ⟨_, _, h, Nat.le_refl _, fun F θ σ a w R hd ag _ _ _ => ?_⟩
      have h1 := xns_rel R f1.toList f2 vs (okXs_of ok.1).1 (okXs_of ok.1).2 hvs ag.left
      have h2 := xns_rel R c1.toList c2 us (okXs_of ok.2).1 (okXs_of ok.2).2 hus ag.right
      exact step_pure' (u := .func fn (f1.map a.eval) (c1.map a.eval)) R hd (by simp [execOp, ho, Instr.makeFunc]) (by simp only [VRel]; exact ⟨_, _, rfl, by simpa using h1, by simpa using h2⟩)
    · cases h
  · cases h

theorem s_len {t t' : TypeId} {str : Bool} {x : AX} {x' : Operand} (ho : o.op = .call { callee := .builtin .len, args := #[x'], argTypes := #[t] }) (ok : okX C.ng x' x = true)
    (ht : (match P.underlying t with | some .string => str | some (.slice _) => !str | _ => false) = true)
    (h : evOp O C.fl o.dst (.len str x) s k = some r) : OpS P C s o (.len str x) k r := by
  cases str with
  | false =>
    simp only [evOp_mv, evOp_nchk, evOp_pop, evOp_pick, evOp_alloc_true, evOp_alloc_false, evOp_box_true, evOp_box_false, evOp_build, evOp_bslice, evOp_load, evOp_store, evOp_bin, evOp_eqs, evOp_eqb, evOp_eqnil, evOp_un, evOp_conv, evOp_fadr, evOp_fld, evOp_iadr, evOp_iadra, evOp_idx, evOp_idxs, evOp_slc, evOp_ext, evOp_mkf, evOp_mks, evOp_call, evOp_len_false, evOp_len_true, evOp_app, evOp_mm] at h
    split at h
    · rename_i a1 n c hv
      refine ⟨_, _, h, Nat.le_refl _, fun F θ σ a w R hd ag _ _ _ => ?_⟩
      have h1 := xn_rel R ok hv ag
      have key : ∃ a' c', a.eval x' = .slice a' n c' := by
        cases a1 with
        | none => simp only [VRel] at h1; obtain ⟨e1, e2, e3⟩ := h1; exact ⟨_, _, by rw [e3, e1]⟩
        | some p => obtain ⟨id, off⟩ := p; simp only [VRel] at h1; obtain ⟨b, o, c, cap', _, e, _⟩ := h1; exact ⟨_, _, e⟩
      obtain ⟨a', c', e⟩ := key
      refine step_pure' (u := .int .i64 n) R hd ?_ (by simp [VRel])
      split at ht
      · cases ht
      · rename_i e' hu
        simp [execOp, ho, resolve, invoke, builtin, e, Builtin.len_, run_underlying hu, goInt]
      · cases ht
    · rename_i n c1 cs1 hv
      refine ⟨_, _, h, Nat.le_refl _, fun F θ σ a w R hd ag _ _ _ => ?_⟩
      obtain ⟨a', c', e, _, _, _⟩ := vs_slice (xn_rel R ok hv ag)
      refine step_pure' (u := .int .i64 n) R hd ?_ (by simp [VRel])
      split at ht
      · cases ht
      · rename_i e' hu
        simp [execOp, ho, resolve, invoke, builtin, e, Builtin.len_, run_underlying hu, goInt]
      · cases ht
    · cases h
  | true =>
    simp only [evOp_mv, evOp_nchk, evOp_pop, evOp_pick, evOp_alloc_true, evOp_alloc_false, evOp_box_true, evOp_box_false, evOp_build, evOp_bslice, evOp_load, evOp_store, evOp_bin, evOp_eqs, evOp_eqb, evOp_eqnil, evOp_un, evOp_conv, evOp_fadr, evOp_fld, evOp_iadr, evOp_iadra, evOp_idx, evOp_idxs, evOp_slc, evOp_ext, evOp_mkf, evOp_mks, evOp_call, evOp_len_false, evOp_len_true, evOp_app, evOp_mm] at h
    split at h
    · rename_i b hv
      refine ⟨_, _, h, Nat.le_refl _, fun F θ σ a w R hd ag _ _ _ => ?_⟩
      have h1 := xn_rel R ok hv ag
      simp only [VRel] at h1
      refine step_pure' (u := .int .i64 b.size) R hd ?_ (by simp [VRel])
      split at ht
      · rename_i hu
        simp [execOp, ho, resolve, invoke, builtin, h1, Builtin.len_, run_underlying hu, goInt]
      · simp at ht
      · cases ht
    · cases h

theorem s_mm {mx : Bool} {t1 t2 : TypeId} {x y : AX} {x' y' : Operand} (ho : o.op = .call { callee := .builtin (if mx then .max else .min), args := #[x', y'], argTypes := #[t1, t2] }) (ok : okX C.ng x' x = true ∧ okX C.ng y' y = true)
    (h : evOp O C.fl o.dst (.mm mx x y) s k = some r) : OpS P C s o (.mm mx x y) k r := by
  simp only [evOp_mv, evOp_nchk, evOp_pop, evOp_pick, evOp_alloc_true, evOp_alloc_false, evOp_box_true, evOp_box_false, evOp_build, evOp_bslice, evOp_load, evOp_store, evOp_bin, evOp_eqs, evOp_eqb, evOp_eqnil, evOp_un, evOp_conv, evOp_fadr, evOp_fld, evOp_iadr, evOp_iadra, evOp_idx, evOp_idxs, evOp_slc, evOp_ext, evOp_mkf, evOp_mks, evOp_call, evOp_len_false, evOp_len_true, evOp_app, evOp_mm] at h
  split at h
  · rename_i k1 m hv
    split at h
    · rename_i k2 n hu
      refine ⟨_, _, h, Nat.le_refl _, fun F θ σ a w R hd ag _ _ _ => ?_⟩
      have h1 := xn_rel R ok.1 hv ag.left
      have h2 := xn_rel R ok.2 hu ag.right
      simp only [VRel] at h1 h2
      cases mx
      · exact step_pure' (u := .int k1 (if n < m then n else m)) R hd (by simp [execOp, ho, resolve, invoke, builtin, h1, h2, Builtin.min_, Builtin.min2]) (by simp [VRel])
      · exact step_pure' (u := .int k1 (if n > m then n else m)) R hd (by simp [execOp, ho, resolve, invoke, builtin, h1, h2, Builtin.max_, Builtin.max2]) (by simp [VRel])
    · cases h
  · cases h

end
end Go.Proofs.YtogkkamlmklpkaaDoor.Ab
