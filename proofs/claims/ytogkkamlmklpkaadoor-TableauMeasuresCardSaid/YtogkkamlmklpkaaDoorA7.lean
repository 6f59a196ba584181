/- Each plain operation of the abstract machine does what the model's operation does (fourth part: places, slices, append). No condition: lemmas only. -/
import Derived.Test.YtogkkamlmklpkaaDoorA6
set_option linter.unusedVariables false
set_option linter.unusedSimpArgs false
namespace Go.Proofs.YtogkkamlmklpkaaDoor.Ab
open Go

section
variable {P : Program} {C : Cx} {O : Orc} {s : AS} {o : Oper} {k : Eff → Foot → Option Res} {r : Res}

theorem add_off (b off n : Nat) : (⟨b, off, none⟩ : Addr).add n = ⟨b, off + n, none⟩ := by
  unfold Addr.add; split
  · rename_i e; simp [e]
  · rfl

/-- A value's place moved on. -/
theorem step_place {F : FS} {θ : Th} {σ : Nat → Option Nat} {a : Act} {w : World} {n lo hi t off d : Nat} {u : Value} (R : Rep P C θ σ F a w) (hd : ∀ t, o.dst = some t → t < C.N) (h : TRel θ σ (.lp t off) u)
    (hl : (F.loc t).isSome = true) (hr : ∀ b, u = .pointer (some ⟨b, off, none⟩) → (execOp a.eval o).run P w = .ok (.value (.pointer (some ⟨b, off + d, none⟩))) w) :
    StepTo P C θ σ lo hi o a w (F.put o.dst (Eff.v (.lp t (off + d)) n)) := by
  obtain ⟨b, hb, hu⟩ := lp_of h
  exact step_pure R hd (hr b hu) (Chg.refl _ _) ⟨b, hb, rfl⟩ (fun s' off' e => by cases e; exact hl)

def fieldOff (P : Program) (t : TypeId) (j : Nat) (off : Nat) : Bool :=
  match P.underlying t with
  | some (.struct fs) => match fs[j]? with
    | some f => Nat.beq f.offset off && (match P.info? f.type with | some i => !(Nat.beq i.size 0) | none => false)
    | none => false
  | _ => false
theorem fieldOff_run {t : TypeId} {j off : Nat} (h : fieldOff P t j off = true) {b q : Nat} {w : World} : (Instr.fieldAt t (.pointer (some ⟨b, q, none⟩)) j).run P w = .ok (.pointer (some ⟨b, q + off, none⟩)) w := by
  unfold fieldOff at h
  split at h
  · rename_i fs hfs
    split at h
    · rename_i f hf
      simp only [Bool.and_eq_true] at h
      have e := beq_true.1 h.1; subst e
      have h2 := h.2
      split at h2
      · rename_i i hi
        have hne : ¬ i.size = 0 := by
          intro q; rw [q] at h2; simp [beq_true.2] at h2
        simp [Instr.fieldAt, run_underlying hfs, hf, Instr.sureAddr, fieldPlace, sizeOf, typeInfo, hi, hne, add_off]
      · cases h2
    · cases h
  · cases h

theorem s_fadr {t : TypeId} {j off : Nat} {x : AX} {x' : Operand} (ho : o.op = .fieldAddr t x' j) (ok : okX C.ng x' x = true) (hf : fieldOff P t j off = true)
    (h : evOp O C.fl o.dst (.fadr off x) s k = some r) : OpS P C s o (.fadr off x) k r := by
  simp only [evOp_mv, evOp_nchk, evOp_pop, evOp_pick, evOp_alloc_true, evOp_alloc_false, evOp_box_true, evOp_box_false, evOp_build, evOp_bslice, evOp_load, evOp_store, evOp_bin, evOp_eqs, evOp_eqb, evOp_eqnil, evOp_un, evOp_conv, evOp_fadr, evOp_fld, evOp_iadr, evOp_iadra, evOp_idx, evOp_idxs, evOp_slc, evOp_ext, evOp_mkf, evOp_mks, evOp_call, evOp_len_false, evOp_len_true, evOp_app, evOp_mm] at h
  split at h
  · rename_i q off' hv
    refine ⟨_, _, h, Nat.le_refl _, fun F θ σ a w R hd ag _ _ _ => ?_⟩
    obtain ⟨h1, h2⟩ := xv_rel R ok hv ag
    exact step_place R hd h1 (h2 _ _ rfl) fun b e => by simp [execOp, ho, e, fieldOff_run hf]
  · rename_i id off' hv
    refine ⟨_, _, h, Nat.le_refl _, fun F θ σ a w R hd ag _ _ _ => ?_⟩
    have h1 := (xv_rel R ok hv ag).1.val rfl
    simp only [VRel] at h1
    obtain ⟨b, o', c, e1, e2⟩ := h1
    exact step_pure' R hd (by simp [execOp, ho, e2, fieldOff_run hf]; rfl) (by simp only [VRel]; exact ⟨b, o', c, e1, by rw [Nat.add_assoc]⟩)
  · rename_i cs hv
    refine ⟨_, _, h, Nat.le_refl _, fun F θ σ a w R hd ag _ _ _ => ?_⟩
    have h1 := (xv_rel R ok hv ag).1.val rfl
    simp only [VRel] at h1
    obtain ⟨b, o', us, e2, e3, en, e4⟩ := h1
    exact step_pure' R hd (by simp [execOp, ho, e2, fieldOff_run hf]; rfl) (by simp only [VRel]; exact ⟨b, o' + off, us.drop off, rfl, e3.drop off, nors_drop _ en, e4.drop off⟩)
  · cases h

/-- A part of a row of cells. -/
theorem part_run {t : TypeId} {sz : Option Nat} {off : Nat} {cs : List AV} {v : AV} {ds : Array Value} {θ : Th} {w : World} (hs : lie P t = some sz) (hv : apart_ cs off sz = some v) (hr : VRels θ cs ds.toList) :
    ∃ u, (part t ds off).run P w = .ok u w ∧ VRel θ v u := by
  cases sz with
  | none =>
    simp only [apart_] at hv
    obtain ⟨u, hu, hru⟩ := hr.get hv
    simp at hu
    exact ⟨u, by simp only [part, Sem.run_bind, lie_one hs, Result.andThen_ok, Bool.false_eq_true, if_false, hu, Sem.run_pure], hru⟩
  | some n =>
    simp only [apart_] at hv
    cases hle : Nat.ble (off + n) cs.length with
    | false => simp [hle] at hv
    | true =>
      simp only [hle, cond_true, Option.some.injEq] at hv
      subst hv
      refine ⟨.agg (ds.extract off (off + n)), by simp only [part, Sem.run_bind, (lie_agg hs).1, (lie_agg (w := w) hs).2, Result.andThen_ok, if_true, Sem.run_pure], ?_⟩
      simp only [VRel]
      refine ⟨_, rfl, ?_⟩
      have := (hr.drop off).take n
      rw [Array.toList_extract, List.extract_eq_take_drop]
      simpa using this

def fieldLie (P : Program) (t : TypeId) (j : Nat) (off : Nat) (sz : Option Nat) : Bool :=
  match P.underlying t with
  | some (.struct fs) => match fs[j]? with
    | some f => Nat.beq f.offset off && decide (lie P f.type = some sz)
    | none => false
  | _ => false
theorem s_fld {t : TypeId} {j off : Nat} {sz : Option Nat} {x : AX} {x' : Operand} (ho : o.op = .field t x' j) (ok : okX C.ng x' x = true) (hf : fieldLie P t j off sz = true)
    (h : evOp O C.fl o.dst (.fld off sz x) s k = some r) : OpS P C s o (.fld off sz x) k r := by
  simp only [evOp_mv, evOp_nchk, evOp_pop, evOp_pick, evOp_alloc_true, evOp_alloc_false, evOp_box_true, evOp_box_false, evOp_build, evOp_bslice, evOp_load, evOp_store, evOp_bin, evOp_eqs, evOp_eqb, evOp_eqnil, evOp_un, evOp_conv, evOp_fadr, evOp_fld, evOp_iadr, evOp_iadra, evOp_idx, evOp_idxs, evOp_slc, evOp_ext, evOp_mkf, evOp_mks, evOp_call, evOp_len_false, evOp_len_true, evOp_app, evOp_mm] at h
  split at h
  · rename_i cs hv
    split at h
    · rename_i v hp
      refine ⟨_, _, h, Nat.le_refl _, fun F θ σ a w R hd ag _ _ _ => ?_⟩
      have h1 := xn_rel R ok hv ag
      simp only [VRel] at h1
      obtain ⟨ds, e, h1⟩ := h1
      unfold fieldLie at hf
      split at hf
      · rename_i fs hfs
        split at hf
        · rename_i f hfj
          simp only [Bool.and_eq_true, decide_eq_true_eq] at hf
          have e' := beq_true.1 hf.1; subst e'
          obtain ⟨u, g1, g2⟩ := part_run (P := P) (w := w) hf.2 hp h1
          exact step_pure' (u := u) R hd (by simp [execOp, ho, e, Instr.field, run_underlying hfs, hfj, asAgg, g1]) g2
        · cases hf
      · cases hf
    · cases h
  · cases h

theorem inb_of {i : Int} {n : Nat} (h : inb i n = true) : 0 ≤ i ∧ i < n := by
  simp only [inb, Bool.and_eq_true, decide_eq_true_eq] at h; exact h

def sliceE (P : Program) (t : TypeId) (esz : Nat) : Bool :=
  match P.underlying t with
  | some (.slice e) => (match P.info? e with | some i => Nat.beq i.size esz | none => false)
  | _ => false
theorem sliceE_of {t : TypeId} {esz : Nat} (h : sliceE P t esz = true) : ∃ e i, P.underlying t = some (.slice e) ∧ P.info? e = some i ∧ i.size = esz := by
  unfold sliceE at h
  split at h
  · rename_i e he
    split at h
    · rename_i i hi; exact ⟨e, i, he, hi, beq_true.1 h⟩
    · cases h
  · cases h
def arrayE (P : Program) (t : TypeId) (len esz : Nat) : Bool :=
  match P.underlying t with
  | some (.array n e) => Nat.beq n len && (match P.info? e with | some i => Nat.beq i.size esz | none => false)
  | _ => false
theorem arrayE_of {t : TypeId} {len esz : Nat} (h : arrayE P t len esz = true) : ∃ e i, P.underlying t = some (.array len e) ∧ P.info? e = some i ∧ i.size = esz := by
  unfold arrayE at h
  split at h
  · rename_i n e he
    simp only [Bool.and_eq_true] at h
    have := beq_true.1 h.1; subst this
    have h2 := h.2
    split at h2
    · rename_i i hi; exact ⟨e, i, he, hi, beq_true.1 h2⟩
    · cases h2
  · cases h

theorem s_iadr {t : TypeId} {esz : Nat} {x i : AX} {x' i' : Operand} (ho : o.op = .indexAddr t x' i') (ok : okX C.ng x' x = true ∧ okX C.ng i' i = true) (ht : sliceE P t esz = true)
    (h : evOp O C.fl o.dst (.iadr esz x i) s k = some r) : OpS P C s o (.iadr esz x i) k r := by
  simp only [evOp_mv, evOp_nchk, evOp_pop, evOp_pick, evOp_alloc_true, evOp_alloc_false, evOp_box_true, evOp_box_false, evOp_build, evOp_bslice, evOp_load, evOp_store, evOp_bin, evOp_eqs, evOp_eqb, evOp_eqnil, evOp_un, evOp_conv, evOp_fadr, evOp_fld, evOp_iadr, evOp_iadra, evOp_idx, evOp_idxs, evOp_slc, evOp_ext, evOp_mkf, evOp_mks, evOp_call, evOp_len_false, evOp_len_true, evOp_app, evOp_mm] at h
  split at h
  · rename_i id off len cap hv
    split at h
    · rename_i ki j hj
      cases hb : inb j len with
      | false => simp [hb] at h
      | true =>
        simp only [hb, cond_true] at h
        obtain ⟨hb1, hb2⟩ := inb_of hb
        refine ⟨_, _, h, Nat.le_refl _, fun F θ σ a w R hd ag _ _ _ => ?_⟩
        have h1 := xn_rel R ok.1 hv ag.left
        have h2 := xn_rel R ok.2 hj ag.right
        simp only [VRel] at h1 h2
        obtain ⟨b, o', c, cap', e1, e2, _⟩ := h1
        obtain ⟨e, inf, g1, g2, g3⟩ := sliceE_of ht
        refine step_pure' (u := .pointer (some ⟨b, o' + (off + j.toNat * esz), none⟩)) R hd ?_ (by simp only [VRel]; exact ⟨b, o', c, e1, rfl⟩)
        simp [execOp, ho, e2, h2, Instr.indexAt, asIntOf, run_underlying g1, hb1, hb2, sizeOf, typeInfo, g2, g3, add_off, Nat.add_assoc]
    · cases h
  · rename_i len cap cs hv
    split at h
    · rename_i ki j hj
      cases hb : inb j len with
      | false => simp [hb] at h
      | true =>
        simp only [hb, cond_true] at h
        obtain ⟨hb1, hb2⟩ := inb_of hb
        refine ⟨_, _, h, Nat.le_refl _, fun F θ σ a w R hd ag _ _ _ => ?_⟩
        have h1 := xn_rel R ok.1 hv ag.left
        have h2 := xn_rel R ok.2 hj ag.right
        simp only [VRel] at h1 h2
        rcases h1 with ⟨b, o', cap', us, e2, _, _, e3, en, e4⟩ | ⟨_, z, _⟩
        · obtain ⟨e, inf, g1, g2, g3⟩ := sliceE_of ht
          refine step_pure' (u := .pointer (some ⟨b, o' + j.toNat * esz, none⟩)) R hd ?_ (by simp only [VRel]; exact ⟨b, _, _, rfl, e3.drop _, nors_drop _ en, e4.drop _⟩)
          simp [execOp, ho, e2, h2, Instr.indexAt, asIntOf, run_underlying g1, hb1, hb2, sizeOf, typeInfo, g2, g3, add_off, Nat.add_assoc]
        · omega
    · cases h
  · cases h

theorem s_iadra {t : TypeId} {len esz : Nat} {x i : AX} {x' i' : Operand} (ho : o.op = .indexAddr t x' i') (ok : okX C.ng x' x = true ∧ okX C.ng i' i = true) (ht : arrayE P t len esz = true)
    (h : evOp O C.fl o.dst (.iadra esz len x i) s k = some r) : OpS P C s o (.iadra esz len x i) k r := by
  simp only [evOp_mv, evOp_nchk, evOp_pop, evOp_pick, evOp_alloc_true, evOp_alloc_false, evOp_box_true, evOp_box_false, evOp_build, evOp_bslice, evOp_load, evOp_store, evOp_bin, evOp_eqs, evOp_eqb, evOp_eqnil, evOp_un, evOp_conv, evOp_fadr, evOp_fld, evOp_iadr, evOp_iadra, evOp_idx, evOp_idxs, evOp_slc, evOp_ext, evOp_mkf, evOp_mks, evOp_call, evOp_len_false, evOp_len_true, evOp_app, evOp_mm] at h
  split at h
  · rename_i ki j hj
    cases hb : inb j len with
    | false => simp [hb] at h
    | true =>
      simp only [hb, cond_true] at h
      obtain ⟨hb1, hb2⟩ := inb_of hb
      obtain ⟨e, inf, g1, g2, g3⟩ := arrayE_of ht
      split at h
      · rename_i q off hv
        refine ⟨_, _, h, Nat.le_refl _, fun F θ σ a w R hd ag _ _ _ => ?_⟩
        have h2 := xn_rel R ok.2 hj ag.right
        simp only [VRel] at h2
        obtain ⟨h1, h3⟩ := xv_rel R ok.1 hv ag.left
        exact step_place R hd h1 (h3 _ _ rfl) fun b e => by
          simp [execOp, ho, e, h2, Instr.indexAt, asIntOf, run_underlying g1, hb1, hb2, Instr.sureAddr, sizeOf, typeInfo, g2, g3, add_off]
      · rename_i id off hv
        refine ⟨_, _, h, Nat.le_refl _, fun F θ σ a w R hd ag _ _ _ => ?_⟩
        have h2 := xn_rel R ok.2 hj ag.right
        have h1 := (xv_rel R ok.1 hv ag.left).1.val rfl
        simp only [VRel] at h1 h2
        obtain ⟨b, o', c, e1, e2⟩ := h1
        refine step_pure' (u := .pointer (some ⟨b, o' + (off + j.toNat * esz), none⟩)) R hd ?_ (by simp only [VRel]; exact ⟨b, o', c, e1, rfl⟩)
        simp [execOp, ho, e2, h2, Instr.indexAt, asIntOf, run_underlying g1, hb1, hb2, Instr.sureAddr, sizeOf, typeInfo, g2, g3, add_off, Nat.add_assoc]
      · rename_i cs hv
        refine ⟨_, _, h, Nat.le_refl _, fun F θ σ a w R hd ag _ _ _ => ?_⟩
        have h2 := xn_rel R ok.2 hj ag.right
        have h1 := (xv_rel R ok.1 hv ag.left).1.val rfl
        simp only [VRel] at h1 h2
        obtain ⟨b, o', us, e2, e3, en, e4⟩ := h1
        refine step_pure' (u := .pointer (some ⟨b, o' + j.toNat * esz, none⟩)) R hd ?_ (by simp only [VRel]; exact ⟨b, _, _, rfl, e3.drop _, nors_drop _ en, e4.drop _⟩)
        simp [execOp, ho, e2, h2, Instr.indexAt, asIntOf, run_underlying g1, hb1, hb2, Instr.sureAddr, sizeOf, typeInfo, g2, g3, add_off, Nat.add_assoc]
      · cases h
  · cases h

def idxOk (P : Program) (t : TypeId) (len esz : Nat) (ag : Bool) : Bool :=
  match P.underlying t with
  | some (.array n e) => Nat.beq n len && (match P.info? e with | some i => Nat.beq i.size esz | none => false) && decide (lie P e = some (bif ag then some esz else none))
  | _ => false
theorem s_idx {t : TypeId} {len esz : Nat} {agg : Bool} {x i : AX} {x' i' : Operand} (ho : o.op = .index t x' i') (ok : okX C.ng x' x = true ∧ okX C.ng i' i = true) (ht : idxOk P t len esz agg = true)
    (h : evOp O C.fl o.dst (.idx esz agg len x i) s k = some r) : OpS P C s o (.idx esz agg len x i) k r := by
  simp only [evOp_mv, evOp_nchk, evOp_pop, evOp_pick, evOp_alloc_true, evOp_alloc_false, evOp_box_true, evOp_box_false, evOp_build, evOp_bslice, evOp_load, evOp_store, evOp_bin, evOp_eqs, evOp_eqb, evOp_eqnil, evOp_un, evOp_conv, evOp_fadr, evOp_fld, evOp_iadr, evOp_iadra, evOp_idx, evOp_idxs, evOp_slc, evOp_ext, evOp_mkf, evOp_mks, evOp_call, evOp_len_false, evOp_len_true, evOp_app, evOp_mm] at h
  split at h
  · rename_i cs hv
    split at h
    · rename_i ki j hj
      cases hb : inb j len with
      | false => simp [hb] at h
      | true =>
        simp only [hb, cond_true] at h
        obtain ⟨hb1, hb2⟩ := inb_of hb
        split at h
        · rename_i v hp
          refine ⟨_, _, h, Nat.le_refl _, fun F θ σ a w R hd ag _ _ _ => ?_⟩
          have h1 := xn_rel R ok.1 hv ag.left
          have h2 := xn_rel R ok.2 hj ag.right
          simp only [VRel] at h1 h2
          obtain ⟨ds, e, h1⟩ := h1
          unfold idxOk at ht
          split at ht
          · rename_i n el hu
            simp only [Bool.and_eq_true, decide_eq_true_eq] at ht
            obtain ⟨⟨t1, t2⟩, t3⟩ := ht
            have t1 := beq_true.1 t1; subst t1
            split at t2
            · rename_i inf hi
              have t2 := beq_true.1 t2; subst t2
              obtain ⟨u, g1, g2⟩ := part_run (P := P) (w := w) t3 hp h1
              exact step_pure' (u := u) R hd (by simp [execOp, ho, e, h2, Instr.index, asIntOf, run_underlying hu, hb1, hb2, sizeOf, typeInfo, hi, g1]) g2
            · cases t2
          · cases ht
        · cases h
    · cases h
  · cases h

theorem s_idxs {t : TypeId} {x i : AX} {x' i' : Operand} (ho : o.op = .index t x' i') (ok : okX C.ng x' x = true ∧ okX C.ng i' i = true) (ht : P.underlying t = some .string)
    (h : evOp O C.fl o.dst (.idxs x i) s k = some r) : OpS P C s o (.idxs x i) k r := by
  simp only [evOp_mv, evOp_nchk, evOp_pop, evOp_pick, evOp_alloc_true, evOp_alloc_false, evOp_box_true, evOp_box_false, evOp_build, evOp_bslice, evOp_load, evOp_store, evOp_bin, evOp_eqs, evOp_eqb, evOp_eqnil, evOp_un, evOp_conv, evOp_fadr, evOp_fld, evOp_iadr, evOp_iadra, evOp_idx, evOp_idxs, evOp_slc, evOp_ext, evOp_mkf, evOp_mks, evOp_call, evOp_len_false, evOp_len_true, evOp_app, evOp_mm] at h
  split at h
  · rename_i b hv
    split at h
    · rename_i ki j hj
      split at h
      · rename_i h0
        split at h
        · rename_i c hc
          refine ⟨_, _, h, Nat.le_refl _, fun F θ σ a w R hd ag _ _ _ => ?_⟩
          have h1 := xn_rel R ok.1 hv ag.left
          have h2 := xn_rel R ok.2 hj ag.right
          simp only [VRel] at h1 h2
          exact step_pure' (u := .int .u8 c.toNat) R hd (by simp [execOp, ho, h1, h2, Instr.index, asIntOf, run_underlying ht, h0, hc]) (by simp [VRel])
        · cases h
      · cases h
    · cases h
  · cases h

/-! ### Slices of slices -/
theorem bound_run {F : FS} {θ : Th} {σ : Nat → Option Nat} {a : Act} {w : World} (R : Rep P C θ σ F a w) {fr : List (Nat × AV)} {x : AX} {x' : Operand} {dflt lim m y : Nat} {code : BoundsCode} (ok : okX C.ng x' x = true)
    (h : abound fr (some x) dflt lim = some m) (ag : AgT F fr x.rd) (hy : lim ≤ y) : (Instr.sliceBound (a.eval x') y code).run P w = .ok m w ∧ m ≤ lim := by
  simp only [abound] at h
  split at h
  · rename_i k i hv
    split at h
    · rename_i hi
      simp only [Option.some.injEq] at h; subst h
      have h1 := xn_rel R ok hv ag
      simp only [VRel] at h1
      have : i ≤ y := by omega
      exact ⟨by simp [Instr.sliceBound, h1, asIntOf, hi.1, this], by omega⟩
    · cases h
  · cases h

def okXo (ng : Nat) : Option Operand → Option AX → Bool
  | none, none => true
  | some x, some y => okX ng x y
  | _, _ => false

theorem bounds_run {F : FS} {θ : Th} {σ : Nat → Option Nat} {a : Act} {w : World} (R : Rep P C θ σ F a w) {fr : List (Nat × AV)} {lo hi mx : Option AX} {lo' hi' mx' : Option Operand} {len cap' m hh l : Nat}
    (ok : okXo C.ng lo' lo = true ∧ okXo C.ng hi' hi = true ∧ okXo C.ng mx' mx = true) (hmh : mx.isSome = true → hi.isSome = true) (hc : len ≤ cap')
    (h1 : abound fr mx len len = some m) (h2 : abound fr hi len (pickm mx len m) = some hh) (h3 : abound fr lo 0 hh = some l)
    (ag : AgT F fr (AX.ord lo ++ AX.ord hi ++ AX.ord mx)) :
    (Instr.sliceBounds true len cap' (lo'.map a.eval) (hi'.map a.eval) (mx'.map a.eval)).run P w = .ok (l, hh, pickm mx cap' m) w ∧ l ≤ hh ∧ hh ≤ len ∧ (mx.isSome = true → hh ≤ m ∧ m ≤ len) := by
  obtain ⟨ok1, ok2, ok3⟩ := ok
  have step : ∀ {x' : Option Operand} {x : Option AX} {dflt lim m' : Nat}, okXo C.ng x' x = true → abound fr x dflt lim = some m' → AgT F fr (AX.ord x) →
      (x' = none ∧ x = none ∧ m' = dflt) ∨ (∃ y' y, x' = some y' ∧ x = some y ∧ m' ≤ lim ∧ ∀ (lim' : Nat) code, lim ≤ lim' → (Instr.sliceBound (a.eval y') lim' code).run P w = .ok m' w) := by
    intro x' x dflt lim m' ok h ag
    cases x' with
    | none => cases x with
      | none => simp only [abound, Option.some.injEq] at h; exact .inl ⟨rfl, rfl, h.symm⟩
      | some y => simp [okXo] at ok
    | some y' => cases x with
      | none => simp [okXo] at ok
      | some y =>
        simp only [okXo] at ok
        exact .inr ⟨y', y, rfl, rfl, (bound_run R (y := lim) (code := .index) ok h ag (Nat.le_refl _)).2, fun lim' code hl => (bound_run R ok h ag hl).1⟩
  have s1 := step ok3 h1 ag.right
  have s2 := step ok2 h2 ag.left.right
  have s3 := step ok1 h3 ag.left.left
  rcases s1 with ⟨rfl, rfl, rfl⟩ | ⟨y', y, rfl, rfl, hm, r1⟩
  · rcases s2 with ⟨rfl, rfl, rfl⟩ | ⟨z', z, rfl, rfl, hz, r2⟩
    · rcases s3 with ⟨rfl, rfl, rfl⟩ | ⟨q', q, rfl, rfl, hq, r3⟩
      · exact ⟨by simp [pickm, Instr.sliceBounds], Nat.zero_le _, Nat.le_refl _, by simp⟩
      · exact ⟨by simp [pickm, Instr.sliceBounds, r3 _ _ (Nat.le_refl _)], hq, Nat.le_refl _, by simp⟩
    · rcases s3 with ⟨rfl, rfl, rfl⟩ | ⟨q', q, rfl, rfl, hq, r3⟩
      · exact ⟨by simp [pickm, Instr.sliceBounds, r2 cap' _ (by simpa [pickm] using hc)], Nat.zero_le _, hz, by simp⟩
      · exact ⟨by simp [pickm, Instr.sliceBounds, r2 cap' _ (by simpa [pickm] using hc), r3 _ _ (Nat.le_refl _)], hq, hz, by simp⟩
  · rcases s2 with ⟨rfl, rfl, rfl⟩ | ⟨z', z, rfl, rfl, hz, r2⟩
    · simp at hmh
    · simp only [pickm] at hz
      rcases s3 with ⟨rfl, rfl, rfl⟩ | ⟨q', q, rfl, rfl, hq, r3⟩
      · exact ⟨by simp [pickm, Instr.sliceBounds, r1 cap' _ hc, r2 m _ (Nat.le_refl _)], Nat.zero_le _, by omega, fun _ => ⟨hz, hm⟩⟩
      · exact ⟨by simp [pickm, Instr.sliceBounds, r1 cap' _ hc, r2 m _ (Nat.le_refl _), r3 _ _ (Nat.le_refl _)], hq, by omega, fun _ => ⟨hz, hm⟩⟩

theorem s_slc {t : TypeId} {esz : Nat} {x : AX} {lo hi mx : Option AX} {x' : Operand} {lo' hi' mx' : Option Operand} (ho : o.op = .slice t x' lo' hi' mx') (ok : okX C.ng x' x = true)
    (ok2 : okXo C.ng lo' lo = true ∧ okXo C.ng hi' hi = true ∧ okXo C.ng mx' mx = true) (hmh : (!mx.isSome || hi.isSome) = true) (ht : sliceE P t esz = true)
    (h : evOp O C.fl o.dst (.slc esz x lo hi mx) s k = some r) : OpS P C s o (.slc esz x lo hi mx) k r := by
  obtain ⟨e, inf, t1, t2, t3⟩ := sliceE_of ht
  have hmh : mx.isSome = true → hi.isSome = true := fun q => by rw [q] at hmh; simpa using hmh
  simp only [evOp_mv, evOp_nchk, evOp_pop, evOp_pick, evOp_alloc_true, evOp_alloc_false, evOp_box_true, evOp_box_false, evOp_build, evOp_bslice, evOp_load, evOp_store, evOp_bin, evOp_eqs, evOp_eqb, evOp_eqnil, evOp_un, evOp_conv, evOp_fadr, evOp_fld, evOp_iadr, evOp_iadra, evOp_idx, evOp_idxs, evOp_slc, evOp_ext, evOp_mkf, evOp_mks, evOp_call, evOp_len_false, evOp_len_true, evOp_app, evOp_mm] at h
  split at h
  · rename_i pa len cap hv
    split at h
    · rename_i m hm
      split at h
      · rename_i hh hhh
        split at h
        · rename_i l hl
          -- what the model does
          have key : ∀ {F : FS} {θ : Th} {σ : Nat → Option Nat} {a : Act} {w : World}, Rep P C θ σ F a w → AgT F s.fr (AOp.slc esz x lo hi mx).rd → ∀ (a0 : Option Addr) (cap' : Nat), a.eval x' = .slice a0 len cap' → len ≤ cap' → ∀ q, q = pickm mx cap' m →
              (execOp a.eval o).run P w = .ok (.value (.slice (if q = l then a0 else a0.map (·.add (l * esz))) (hh - l) (q - l))) w ∧ l ≤ hh ∧ hh ≤ len ∧ (mx.isSome = true → hh ≤ m ∧ m ≤ len) := by
            intro F θ σ a w R ag a0 cap' e1 hc q hq
            subst hq
            have ag' : AgT F s.fr (AX.ord lo ++ AX.ord hi ++ AX.ord mx) := fun q hq => ag q (by
              simp only [AOp.rd, List.append_assoc, List.mem_append] at hq ⊢
              exact .inr hq)
            obtain ⟨b1, b2, b3, b4⟩ := bounds_run R ok2 hmh hc hm hhh hl ag'
            refine ⟨?_, b2, b3, b4⟩
            simp [execOp, ho, e1, Instr.sliceAt, run_underlying t1, Instr.slice, b1, sizeOf, typeInfo, t2, t3]
          cases pa with
          | none =>
            simp only at h
            refine ⟨_, _, h, Nat.le_refl _, fun F θ σ a w R hd ag _ _ _ => ?_⟩
            have h1 := xn_rel R ok hv ag.left.left.left
            simp only [VRel] at h1
            obtain ⟨e1, e2, e3⟩ := h1
            have key := key R ag none 0 (by rw [e3, e1]) (by omega)
            obtain ⟨_, b2, b3, b4⟩ := key _ rfl
            have z1 : hh = 0 := by omega
            have z2 : l = 0 := by omega
            subst z1; subst z2
            have z3 : pickm mx 0 m = 0 := by
              cases mx with
              | none => rfl
              | some _ => have := b4 rfl; simp only [pickm]; omega
            obtain ⟨b1, _⟩ := key 0 z3.symm
            exact step_pure' (u := .slice none 0 0) R hd (by rw [b1]; simp) (by simp [VRel])
          | some p =>
            obtain ⟨id, off⟩ := p
            simp only at h
            cases hg : slcOk mx cap l len with
            | false => rw [hg] at h; simp at h
            | true =>
              rw [hg, cond_true] at h
              refine ⟨_, _, h, Nat.le_refl _, fun F θ σ a w R hd ag _ _ _ => ?_⟩
              have h1 := xn_rel R ok hv ag.left.left.left
              simp only [VRel] at h1
              obtain ⟨b, o', c, cap', e1, e2, e3, e4⟩ := h1
              have key := key R ag (some ⟨b, o' + off, none⟩) cap' e2 e3
              simp only [Option.map_some, add_off] at key
              obtain ⟨_, b2, b3, b4⟩ := key _ rfl
              cases mx with
              | some y =>
                have b5 := b4 rfl
                refine step_pure' R hd (key m rfl).1 ?_
                simp only [VRel, slcOff, slcCap]
                by_cases q : m = l
                · subst q
                  refine ⟨b, o', c, m - m, e1, ?_, by omega, rfl⟩
                  simp [beq_true.2]
                · refine ⟨b, o', c, m - l, e1, ?_, by omega, rfl⟩
                  rw [if_neg q, beq_false.2 q, cond_false, Nat.add_assoc]
              | none =>
                refine step_pure' R hd (key cap' rfl).1 ?_
                cases cap with
                | ex n =>
                  simp only at e4; subst e4
                  simp only [VRel, slcOff, slcCap]
                  by_cases q : cap' = l
                  · subst q
                    refine ⟨b, o', c, _, e1, ?_, by omega, rfl⟩
                    simp [beq_true.2]
                  · refine ⟨b, o', c, _, e1, ?_, by omega, rfl⟩
                    rw [if_neg q, beq_false.2 q, cond_false, Nat.add_assoc]
                | op =>
                  simp only [slcOk] at e4 hg
                  have hlt : l < len := by rw [Nat.blt_eq] at hg; exact hg
                  obtain ⟨rfl, rfl⟩ := e4
                  simp only [VRel, slcOff, slcCap]
                  have q : ¬ cap' = l := by omega
                  by_cases z : l = 0
                  · subst z
                    refine ⟨b, o', cap', cap', e1, ?_, by omega, ?_⟩
                    · simp
                    · simp [beq_true.2]
                  · refine ⟨b, o', cap', cap' - l, e1, ?_, by omega, ?_⟩
                    · rw [if_neg q, Nat.add_assoc]
                    · simp [beq_false.2 z]
                | unk =>
                  simp only [slcOk] at e4 hg
                  have hlt : l < len := by rw [Nat.blt_eq] at hg; exact hg
                  simp only [VRel, slcOff, slcCap]
                  have q : ¬ cap' = l := by omega
                  refine ⟨b, o', c, cap' - l, e1, ?_, by omega, trivial⟩
                  rw [if_neg q, Nat.add_assoc]
        · cases h
      · cases h
    · cases h
  · rename_i len cap cs hv
    split at h
    · rename_i m hm
      split at h
      · rename_i hh hhh
        split at h
        · rename_i l hl
          refine ⟨_, _, h, Nat.le_refl _, fun F θ σ a w R hd ag _ _ _ => ?_⟩
          have key : ∀ (a0 : Option Addr) (cap' : Nat), a.eval x' = .slice a0 len cap' → len ≤ cap' → ∀ q, q = pickm mx cap' m →
              (execOp a.eval o).run P w = .ok (.value (.slice (if q = l then a0 else a0.map (·.add (l * esz))) (hh - l) (q - l))) w ∧ l ≤ hh ∧ hh ≤ len ∧ (mx.isSome = true → hh ≤ m ∧ m ≤ len) := by
            intro a0 cap' e1 hc q hq
            subst hq
            have ag' : AgT F s.fr (AX.ord lo ++ AX.ord hi ++ AX.ord mx) := fun q hq => ag q (by
              simp only [AOp.rd, List.append_assoc, List.mem_append] at hq ⊢
              exact .inr hq)
            obtain ⟨b1, b2, b3, b4⟩ := bounds_run R ok2 hmh hc hm hhh hl ag'
            refine ⟨?_, b2, b3, b4⟩
            simp [execOp, ho, e1, Instr.sliceAt, run_underlying t1, Instr.slice, b1, sizeOf, typeInfo, t2, t3]
          have h1 := xn_rel R ok hv ag.left.left.left
          simp only [VRel] at h1
          rcases h1 with ⟨b, o', cap', us, e1, e2, e3, e4, en, e5⟩ | ⟨e1, rfl, rfl, e3⟩
          · have key := key _ _ e1 e2
            simp only [Option.map_some, add_off] at key
            obtain ⟨k1, b2, b3, b4⟩ := key _ rfl
            refine step_pure' R hd k1 ?_
            simp only [VRel]
            refine .inl ?_
            have hcap : (slcCapV mx cap m l).is (pickm mx cap' m - l) := by
              cases mx with
              | some y => rfl
              | none =>
                cases cap with
                | ex n => simp only [ACap.is] at e3; subst e3; rfl
                | op => exact e3.elim
                | unk => trivial
            have hle : hh - l ≤ pickm mx cap' m - l := by
              cases mx with
              | some y => have := b4 rfl; simp only [pickm]; omega
              | none => simp only [pickm]; omega
            by_cases q : pickm mx cap' m = l
            · have z : hh - l = 0 := by omega
              refine ⟨b, o', _, [], by rw [if_pos q], hle, hcap, fun i u e => by simp at e, nors_take _ (nors_drop _ en), ?_⟩
              rw [z]; simp [VRels]
            · refine ⟨b, o' + l * esz, _, (us.drop (l * esz)).take ((hh - l) * esz), by rw [if_neg q], hle, hcap, (e4.drop _).take _, nors_take _ (nors_drop _ en), (e5.drop _).take _⟩
          · have key := key none 0 e1 (Nat.le_refl _)
            obtain ⟨k1, b2, b3, b4⟩ := key _ rfl
            have z1 : hh = 0 := by omega
            have z2 : l = 0 := by omega
            subst z1; subst z2
            have z3 : pickm mx 0 m = 0 := by
              cases mx with
              | none => rfl
              | some _ => have := b4 rfl; simp only [pickm]; omega
            rw [z3] at k1
            refine step_pure' (u := .slice none 0 0) R hd (by rw [k1]; simp) ?_
            simp only [VRel]
            refine .inr ⟨by simp, by simp, by simp, ?_⟩
            cases mx with
            | some y => simp only [slcCapV, ACap.is]; have := b4 rfl; omega
            | none =>
              cases cap with
              | ex n => simp only [ACap.is] at e3; subst e3; rfl
              | op => exact e3.elim
              | unk => trivial
        · cases h
      · cases h
    · cases h
  · cases h

/-! ### make -/
def mksOk (P : Program) (t : TypeId) (ety : TypeId) (esz bytes : Nat) (z : List AV) : Bool :=
  match P.underlying t with
  | some (.slice e) => Nat.beq e ety && zeroOk P ety z && (match P.info? ety with | some i => Nat.beq i.size esz && Nat.beq i.bytes bytes | none => false) && !(Nat.beq esz 0)
  | _ => false

theorem madeCells_rel {θ : Th} {z : List AV} {v : Array Value} (h : VRels θ z v.toList) (n : Nat) (hz : 0 < v.size) : VRels θ (List.replicate n z).flatten (madeCells v (n * v.size)).toList := by
  have hl : z.length = v.size := by have := h.length; simpa using this.symm
  refine VRels.mk (by simp [madeCells, hl]) fun j x y hx hy => ?_
  have hj : j < n * v.size := by
    have := (List.getElem?_eq_some_iff.1 hy).1
    simpa [madeCells] using this
  have hy' : v[j % v.size]? = some y := by
    simp [madeCells, hj] at hy
    rw [← hy]
    have : j % v.size < v.size := Nat.mod_lt _ hz
    simp [this]
  have hx' : z[j % v.size]? = some x := by
    have : ∀ (n j : Nat), j < n * z.length → (List.replicate n z).flatten[j]? = z[j % z.length]? := by
      intro n
      induction n with
      | zero => intro j hj; simp at hj
      | succ n ih =>
        intro j hj
        simp only [List.replicate_succ, List.flatten_cons]
        rcases Nat.lt_or_ge j z.length with q | q
        · rw [List.getElem?_append_left q, Nat.mod_eq_of_lt q]
        · rw [List.getElem?_append_right q, ih (j - z.length) (by rw [Nat.succ_mul] at hj; omega)]
          rw [Nat.mod_eq_sub_mod q]
    rw [this n j (by rw [hl]; exact hj), hl] at hx
    exact hx
  obtain ⟨u, hu, hr⟩ := h.get hx'
  have : y = u := by simp at hu; rw [hy'] at hu; cases hu; rfl
  rw [this]; exact hr

theorem s_mks {t ety : TypeId} {esz bytes : Nat} {z : List AV} {x y : AX} {x' y' : Operand} (ho : o.op = .makeSlice t x' y') (ok : okX C.ng x' x = true ∧ okX C.ng y' y = true) (ht : mksOk P t ety esz bytes z = true)
    (h : evOp O C.fl o.dst (.mks ety esz bytes z x y) s k = some r) : OpS P C s o (.mks ety esz bytes z x y) k r := by
  simp only [evOp_mv, evOp_nchk, evOp_pop, evOp_pick, evOp_alloc_true, evOp_alloc_false, evOp_box_true, evOp_box_false, evOp_build, evOp_bslice, evOp_load, evOp_store, evOp_bin, evOp_eqs, evOp_eqb, evOp_eqnil, evOp_un, evOp_conv, evOp_fadr, evOp_fld, evOp_iadr, evOp_iadra, evOp_idx, evOp_idxs, evOp_slc, evOp_ext, evOp_mkf, evOp_mks, evOp_call, evOp_len_false, evOp_len_true, evOp_app, evOp_mm] at h
  split at h
  · rename_i k1 l hv
    split at h
    · rename_i k2 c hu
      split at h
      · rename_i hc
        refine ⟨_, _, h, by simp, fun F θ σ a w R hd ag _ _ hf => ?_⟩
        have h1 := xn_rel R ok.1 hv ag.left
        have h2 := xn_rel R ok.2 hu ag.right
        simp only [VRel] at h1 h2
        unfold mksOk at ht
        split at ht
        · rename_i e hte
          simp only [Bool.and_eq_true] at ht
          obtain ⟨⟨⟨t1, t2⟩, t3⟩, t4⟩ := ht
          have t1 := beq_true.1 t1; subst t1
          obtain ⟨i, v, i1, i2, i3, i4⟩ := zeroOk_of t2
          rw [i1] at t3
          simp only [Bool.and_eq_true] at t3
          have t5 := beq_true.1 t3.1; have t6 := beq_true.1 t3.2
          subst t5; subst t6
          have hpos : 0 < i.size := by
            rcases Nat.eq_zero_or_pos i.size with q | q
            · rw [q] at t4; simp [beq_true.2] at t4
            · exact q
          have hrun := run_make (P := P) w t e i v hte i1 i2 k1 k2 l c hc.1 hc.2.1 (by omega) (by omega)
          have hrel := madeCells_rel (i4 θ) c.toNat (by omega)
          rw [i3] at hrel
          have := arr_of hrel
          refine step_new (c := 0) (x := ⟨true, false, e, i.size, (List.replicate c.toNat z).flatten⟩) R hd hf rfl ⟨this.1, this.2.1, by simpa using this.2.2⟩ (Chg.refl _ _)
            (fun θ' e => by simp only [VRel]; exact ⟨_, _, _, _, e, rfl, by omega, rfl⟩) (by simp [execOp, ho, h1, h2, hrun])
        · cases ht
      · cases h
    · cases h
  · cases h

end
end Go.Proofs.YtogkkamlmklpkaaDoor.Ab
