/- Each operation of the abstract machine does what the model's operation does (fifth part: append). No condition: lemmas only. -/
import Derived.Test.YtogkkamlmklpkaaDoorA7
import Derived.Deep.Upon
set_option linter.unusedVariables false
set_option linter.unusedSimpArgs false
namespace Go.Proofs.YtogkkamlmklpkaaDoor.Ab
open Go

section
variable {P : Program} {C : Cx} {O : Orc} {s : AS} {o : Oper} {k : Eff → Foot → Option Res} {r : Res}

def appOk (P : Program) (t ety : TypeId) (esz bytes : Nat) : Bool :=
  match P.underlying t, P.info? ety with
  | some (.slice e), some i => Nat.beq e ety && Nat.beq i.size esz && Nat.beq i.bytes bytes && !(Nat.beq esz 0) && !(Nat.beq bytes 0) && (match i.zero with | some z => Nat.beq z.cells.size esz | none => false)
  | _, _ => false
theorem nb {n : Nat} (h : (!(Nat.beq n 0)) = true) : 0 < n := by
  rcases Nat.eq_zero_or_pos n with q | q
  · subst q; simp [beq_true.2] at h
  · exact q
theorem appOk_of {t ety : TypeId} {esz bytes : Nat} (h : appOk P t ety esz bytes = true) :
    ∃ i z, P.underlying t = some (.slice ety) ∧ P.info? ety = some i ∧ i.zero = some z ∧ i.size = esz ∧ i.bytes = bytes ∧ z.cells.size = esz ∧ 0 < esz ∧ 0 < bytes := by
  unfold appOk at h
  split at h
  · rename_i e i hu hi
    simp only [Bool.and_eq_true] at h
    obtain ⟨⟨⟨⟨⟨h1, h2⟩, h3⟩, h4⟩, h5⟩, h6⟩ := h
    have h1 := beq_true.1 h1; subst h1
    split at h6
    · rename_i z hz
      exact ⟨i, z, hu, hi, hz, beq_true.1 h2, beq_true.1 h3, beq_true.1 h6, nb h4, nb h5⟩
    · cases h6
  · cases h

theorem app_run {t : TypeId} {x' y' : Operand} {u : Value} {w' w : World} {a : Act} (ho : o.op = .call { callee := .builtin .append, args := #[x', y'], argTypes := #[t, t] })
    (h : (Builtin.append_ #[t, t] o.type #[a.eval x', a.eval y']).run P w = .ok u w') : (execOp a.eval o).run P w = .ok (.value u) w' := by
  simp only [execOp, ho, resolve, invoke, builtin, Sem.run_bind, Sem.run_pure, Result.andThen_ok, List.map_toArray, List.map_cons, List.map_nil, h]

/-- Cells that are read. -/
theorem cells_at {θ : Th} {x : ABlk} {b o c off n : Nat} {w : World} (h : BRel P θ x b o c w) (hn : off + n ≤ x.cells.length) :
    ∃ us : List Value, us.length = n ∧ VRels θ ((x.cells.drop off).take n) us ∧ ∀ (j : Nat) u, us[j]? = some u → w.cell? ((⟨b, o + off, none⟩ : Addr).add j) = some u := by
  induction n with
  | zero => exact ⟨[], rfl, by simp [VRels], by simp⟩
  | succ n ih =>
    obtain ⟨us, h1, h2, h3⟩ := ih (by omega)
    have hlt : off + n < x.cells.length := by omega
    obtain ⟨u, hu, hr⟩ := h.at P (List.getElem?_eq_getElem hlt)
    refine ⟨us ++ [u], by simp [h1], ?_, fun j y hy => ?_⟩
    · have e : (x.cells.drop off).take (n + 1) = (x.cells.drop off).take n ++ [x.cells[off + n]] := by
        rw [List.take_succ_eq_append_getElem (by simp; omega)]
        simp
      rw [e]
      exact h2.append (by simp only [VRels]; exact ⟨u, [], rfl, hr, rfl⟩)
    · rw [List.getElem?_append] at hy
      split at hy
      · exact h3 j y hy
      · rename_i hj
        have : j = n := by
          have := (List.getElem?_eq_some_iff.1 hy).1
          simp at this; omega
        subst this
        simp [h1] at hy; subst hy
        rw [add_off, show o + off + j = o + (off + j) by omega]; exact hu

theorem oldCells_of {h : AHeap} {id off n : Nat} {cs : List AV} (hc : oldCells h id off n = some cs) : ∃ x, hget h id = some x ∧ off + n ≤ x.cells.length ∧ cs = (x.cells.drop off).take n := by
  unfold oldCells at hc
  split at hc
  · cases hc
  · rename_i x hx
    cases hb : Nat.ble (off + n) x.cells.length with
    | false => simp [hb] at hc
    | true =>
      simp only [hb, cond_true, Option.some.injEq] at hc
      exact ⟨x, hx, Nat.le_of_ble_eq_true hb, hc.symm⟩
theorem newCells_of {h : AHeap} {b : Option (Nat × Nat)} {n ib : Nat} {cs : List AV} (hc : newCells h b n = some (ib, cs)) :
    ∃ ob x, b = some (ib, ob) ∧ hget h ib = some x ∧ ob + n ≤ x.cells.length ∧ cs = (x.cells.drop ob).take n ∧ cs.all AV.one = true := by
  unfold newCells at hc
  split at hc
  · cases hc
  · rename_i ib' ob
    split at hc
    · cases hc
    · rename_i x hx
      cases hb : (Nat.ble (ob + n) x.cells.length && ((x.cells.drop ob).take n).all AV.one) with
      | false => simp [hb] at hc
      | true =>
        simp only [hb, cond_true, Option.some.injEq, Prod.mk.injEq] at hc
        simp only [Bool.and_eq_true] at hb
        obtain ⟨rfl, rfl⟩ := hc
        exact ⟨ob, x, rfl, hx, Nat.le_of_ble_eq_true hb.1, rfl, hb.2⟩
theorem ownAt_of {fl : Nat} {h : AHeap} {id : Nat} {x : ABlk} (hc : ownAt fl h id = some x) : hget h id = some x ∧ x.own = true ∧ fl ≤ id := by
  unfold ownAt at hc
  split at hc
  · rename_i y hy
    cases hb : (y.own && Nat.ble fl id) with
    | false => simp [hb] at hc
    | true =>
      simp only [hb, cond_true, Option.some.injEq] at hc
      subst hc
      simp only [Bool.and_eq_true] at hb
      exact ⟨hy, hb.1, Nat.le_of_ble_eq_true hb.2⟩
  · cases hc

theorem zeroCells_size (z : Array Value) (n : Nat) : (Builtin.zeroCells z n).size = n * z.size := by simp [Builtin.zeroCells]

/-- The row that has grown. -/
theorem grown_row {θ : Th} {olds news : List Value} {cs : List AV} {esz need old : Nat} {ety : TypeId} {i : TypeInfo} {z : Value} {w : World} (hi : P.info? ety = some i) (h1 : i.size = esz) (hz : z.cells.size = esz)
    (hr : VRels θ cs (olds ++ news)) (hl : (olds ++ news).length = need * esz) (hm : need ≤ maxLen) (arr : Array Value) (ha : arr = olds.toArray ++ news.toArray ++ Builtin.zeroCells z.cells (grownCap w need old ety - need)) :
    cs.length ≤ arr.size ∧ VRels θ cs (arr.toList.take cs.length) ∧ (if (⟨true, true, ety, esz, cs⟩ : ABlk).opn = true then arr.size = grownCap w need old ety * P.cellsOf ety ∧ grownCap w need old ety ≤ maxLen else arr.size = cs.length) := by
  have hg := grownCap_ge w need old ety
  have hg2 := grownCap_le_maxLen w need old ety hm
  have hlen := hr.length
  have hsz : arr.size = grownCap w need old ety * esz := by
    rw [ha]
    simp only [Array.size_append, List.size_toArray, zeroCells_size, hz]
    simp only [List.length_append] at hl
    rw [hl, ← Nat.add_mul]; congr 1; omega
  refine ⟨?_, ?_, ?_⟩
  · rw [hsz, ← hlen, hl]; exact Nat.mul_le_mul_right _ hg
  · have e : arr.toList = (olds ++ news) ++ (Builtin.zeroCells z.cells (grownCap w need old ety - need)).toList := by
      rw [ha]; simp [List.append_assoc]
    rw [e, ← hlen, List.take_left]
    exact hr
  · have : P.cellsOf ety = esz := by simp [Program.cellsOf, hi, h1]
    simp only [if_true, hsz, this]
    exact ⟨trivial, hg2⟩

/-- What is appended. -/
theorem appNew_src {esz m : Nat} {ib : List Nat} {new : List AV} {yv : AV} {h : AHeap} {F : FS} {θ : Th} {σ : Nat → Option Nat} {a : Act} {w : World} {u : Value} (R : Rep P C θ σ F a w) (h2 : VRel θ yv u)
    (hn : appNew h esz yv = some (m, ib, new)) (agh : ∀ id, id ∈ ib → F.hp id = hget h id) :
    ∃ a0 cb, u = .slice a0 m cb ∧ (a0 = none → m = 0 ∧ cb = 0) ∧ (0 < m → ∃ ad news, a0 = some ad ∧ news.length = m * esz ∧ VRels θ new news ∧ (∀ j u, news[j]? = some u → w.cell? (ad.add j) = some u) ∧ ∀ u ∈ news, u.oneCell' = true) := by
  unfold appNew at hn
  split at hn
  · rename_i pb m' capb
    have h2' := h2
    have hsl : ∃ a0 cb, u = .slice a0 m' cb ∧ (a0 = none → m' = 0 ∧ cb = 0) := by
      cases pb with
      | none => simp only [VRel] at h2; exact ⟨none, 0, by rw [h2.2.2, h2.1], fun _ => ⟨h2.1, rfl⟩⟩
      | some q =>
        obtain ⟨ib, ob⟩ := q
        simp only [VRel] at h2
        obtain ⟨b, o', c, cap', e1, e2, e3, e4⟩ := h2
        exact ⟨_, _, e2, fun z => by cases z⟩
    obtain ⟨a0, cb, e0, ez⟩ := hsl
    cases hm : Nat.beq m' 0 with
    | true =>
      rw [hm, cond_true] at hn
      have hm := beq_true.1 hm; subst hm
      simp only [Option.some.injEq, Prod.mk.injEq] at hn
      obtain ⟨rfl, rfl, rfl⟩ := hn
      exact ⟨a0, cb, e0, ez, fun z => by omega⟩
    | false =>
      rw [hm, cond_false] at hn
      split at hn
      · rename_i ib' new' hnew
        simp only [Option.some.injEq, Prod.mk.injEq] at hn
        obtain ⟨rfl, rfl, rfl⟩ := hn
        obtain ⟨ob, bb, hpb, hbb, hle, hnc, hone⟩ := newCells_of hnew
        subst hpb
        refine ⟨a0, cb, e0, ez, fun _ => ?_⟩
        simp only [VRel] at h2'
        obtain ⟨b, o', c, cap', e1, e2, e3, e4⟩ := h2'
        rw [e0] at e2
        obtain ⟨b', o'', c', g1, g0, g2⟩ := R.m.hp ib' bb (by rw [agh ib' (by simp)]; exact hbb)
        rw [e1] at g1; cases g1
        obtain ⟨us, u1, u2, u3⟩ := cells_at g2 hle
        rw [← hnc] at u2
        simp only [Value.slice.injEq] at e2
        exact ⟨_, us, e2.1, u1, u2, u3, u2.ones hone⟩
      · cases hn
  · rename_i m' capb cs
    cases hc : (Nat.ble (m' * esz) cs.length && (cs.take (m' * esz)).all AV.one) with
    | false => rw [hc] at hn; cases hn
    | true =>
      rw [hc, cond_true] at hn
      simp only [Bool.and_eq_true] at hc
      simp only [Option.some.injEq, Prod.mk.injEq] at hn
      obtain ⟨rfl, rfl, rfl⟩ := hn
      have hle := Nat.le_of_ble_eq_true hc.1
      simp only [VRel] at h2
      rcases h2 with ⟨b, o, cap', us, e1, _, _, e3, _, e4⟩ | ⟨e1, e2, _, _⟩
      · refine ⟨_, _, e1, (fun z => by cases z), fun _ => ⟨_, us.take (m' * esz), rfl, ?_, e4.take _, fun j u hu => ?_, (e4.take _).ones hc.2⟩⟩
        · have := e4.length; simp only [List.length_take]; omega
        · rw [add_off]
          exact R.m.fzc _ _ _ (e3.take _ j u hu)
      · subst e2
        exact ⟨none, 0, e1, fun _ => ⟨rfl, rfl⟩, fun z => by omega⟩
  · cases hn

theorem s_app {t ety : TypeId} {esz bytes : Nat} {x y : AX} {x' y' : Operand} (ho : o.op = .call { callee := .builtin .append, args := #[x', y'], argTypes := #[t, t] })
    (ok : okX C.ng x' x = true ∧ okX C.ng y' y = true) (ht : appOk P t ety esz bytes = true)
    (h : evOp O C.fl o.dst (.app ety esz bytes x y) s k = some r) : OpS P C s o (.app ety esz bytes x y) k r := by
  obtain ⟨i, z, t1, t2, t3, t4, t5, t6, t7, t8⟩ := appOk_of ht
  simp only [evOp_mv, evOp_nchk, evOp_pop, evOp_pick, evOp_alloc_true, evOp_alloc_false, evOp_box_true, evOp_box_false, evOp_build, evOp_bslice, evOp_load, evOp_store, evOp_bin, evOp_eqs, evOp_eqb, evOp_eqnil, evOp_un, evOp_conv, evOp_fadr, evOp_fld, evOp_iadr, evOp_iadra, evOp_idx, evOp_idxs, evOp_slc, evOp_ext, evOp_mkf, evOp_mks, evOp_call, evOp_len_false, evOp_len_true, evOp_app, evOp_mm] at h
  split at h
  · rename_i xv hv
    split at h
    · rename_i yv hu
      split at h
      · rename_i m ib new hnew
        have srcA : ∀ {F : FS} {θ : Th} {σ : Nat → Option Nat} {a : Act} {w : World}, Rep P C θ σ F a w → AgT F s.fr y.rd → (∀ id, id ∈ ib → F.hp id = hget s.h id) →
            ∃ a0 cb, a.eval y' = .slice a0 m cb ∧ (a0 = none → m = 0 ∧ cb = 0) ∧ (0 < m → ∃ ad news, a0 = some ad ∧ news.length = m * esz ∧ VRels θ new news ∧ (∀ j u, news[j]? = some u → w.cell? (ad.add j) = some u) ∧ ∀ u ∈ news, u.oneCell' = true) :=
          fun R ag hF => appNew_src R (xn_rel R ok.2 hu ag) hnew hF
        -- nothing is appended
        have none0 : ∀ {F : FS} {θ : Th} {σ : Nat → Option Nat} {a : Act} {w : World} {n : Nat}, m = 0 → Rep P C θ σ F a w → (∀ t, o.dst = some t → t < C.N) → AgT F s.fr (AOp.app ety esz bytes x y).rd → (∀ id, id ∈ ib → F.hp id = hget s.h id) → ∀ a0 n0 cap', a.eval x' = .slice a0 n0 cap' → n0 ≤ cap' →
            VRel θ xv (a.eval x') → StepTo P C θ σ s.n s.n o a w (F.put o.dst (Eff.v xv s.n)) := by
          intro F θ σ a w _ hm R hd ag hF a0 n0 cap' e1 e2 h1
          subst hm
          obtain ⟨b0, cb, v1, v2, _⟩ := srcA R ag.right hF
          have hs : Src P i.size t (a.eval y') 0 [] w := by
            rw [v1]
            cases b0 with
            | none => rw [(v2 rfl).2]; exact Src.ofNil w t1 0
            | some q => exact Src.ofSlice w t1 _ 0 _ [] (by simp) (by simp) (by simp)
          have hr := run_append_nothing (P := P) w t t o.type ety i t1 t2 a0 n0 cap' e2 (a.eval y') hs
          rw [← e1] at hr
          exact step_pure' R hd (app_run ho hr) h1
        split at h
        · rename_i pa n cap
          cases hm : Nat.beq m 0 with
          | true =>
            rw [hm, cond_true] at h
            have hm := beq_true.1 hm
            have hib : ib = [] := by
              subst hm
              unfold appNew at hnew
              split at hnew
              · rename_i pb m' capb
                cases hm : Nat.beq m' 0 with
                | true => rw [hm, cond_true] at hnew; simp only [Option.some.injEq, Prod.mk.injEq] at hnew; exact hnew.2.1.symm
                | false =>
                  rw [hm, cond_false] at hnew
                  split at hnew
                  · simp only [Option.some.injEq, Prod.mk.injEq] at hnew
                    rw [hnew.1] at hm; simp [beq_true.2] at hm
                  · cases hnew
              · rename_i m' capb cs
                revert hnew
                cases (Nat.ble (m' * esz) cs.length && (cs.take (m' * esz)).all AV.one) <;> intro hnew <;> simp at hnew
                exact hnew.2.1
              · cases hnew
            refine ⟨_, _, h, Nat.le_refl _, fun F θ σ a w R hd ag _ _ _ => ?_⟩
            have h1 := xn_rel R ok.1 hv ag.left
            have hx : ∃ a0 cap', a.eval x' = .slice a0 n cap' ∧ n ≤ cap' := by
              have h1 := h1
              cases pa with
              | none =>
                simp only [VRel] at h1
                exact ⟨none, 0, by rw [h1.2.2, h1.1], by omega⟩
              | some q =>
                obtain ⟨ib, ob⟩ := q
                simp only [VRel] at h1
                obtain ⟨b, o', c, cap', e1, e2, e3, e4⟩ := h1
                exact ⟨_, _, e2, e3⟩
            obtain ⟨a0, cap', e1, e2⟩ := hx
            exact none0 (n := n) hm R hd ag (fun id hid => by rw [hib] at hid; cases hid) a0 n cap' e1 e2 h1
          | false =>
            rw [hm, cond_false] at h
            have hm : 0 < m := Nat.pos_of_ne_zero (beq_false.1 hm)
            cases hby : Nat.ble ((n + m) * bytes) 140737488355328 with
            | false => simp [hby] at h
            | true =>
            rw [hby, cond_true] at h
            have hby := Nat.le_of_ble_eq_true hby
            have hnm : n + m ≤ maxLen := by
              have : n + m ≤ (n + m) * bytes := Nat.le_mul_of_pos_right _ t8
              simp only [maxLen]; omega
            have src : ∀ {F : FS} {θ : Th} {σ : Nat → Option Nat} {a : Act} {w : World}, Rep P C θ σ F a w → AgT F s.fr y.rd → (∀ id, id ∈ ib → F.hp id = hget s.h id) →
                ∃ ad cb news, a.eval y' = .slice (some ad) m cb ∧ news.length = m * i.size ∧ VRels θ new news ∧ (∀ j u, news[j]? = some u → w.cell? (ad.add j) = some u) ∧ ∀ u ∈ news, u.oneCell' = true := by
              intro F θ σ a w R ag hF
              obtain ⟨a0, cb, v1, _, v3⟩ := srcA R ag hF
              obtain ⟨ad, news, rfl, w1, w2, w3, w4⟩ := v3 hm
              exact ⟨ad, cb, news, v1, by rw [t4]; exact w1, w2, w3, w4⟩
            split at h
            · -- nil grows
              refine ⟨_, _, h, by simp, fun F θ σ a w R hd ag _ agh hf => ?_⟩
              have h1 := xn_rel R ok.1 hv ag.left
              obtain ⟨ad, cb, news, v1, v2, v3, v4, v5⟩ := src R ag.right (fun id hid => agh.1 id (by simp [hid]))
              simp only [VRel] at h1
              obtain ⟨rfl, _, h1⟩ := h1
              have hr := run_append_nil (P := P) w t o.type ety i z t1 t2 t3 ad m cb news v2 v4 hm (by simp only [maxLen] at hnm; omega) (by rw [t5]; simp only [Nat.zero_add] at hby; omega)
              have hg := grown_row (P := P) (θ := θ) (olds := []) (news := news) (cs := new) (need := m) (old := 0) (w := w) t2 t4 t6 (by simpa using v3) (by simpa [t4] using v2) (by omega) (news.toArray ++ Builtin.zeroCells z.cells (grownCap w m 0 ety - m)) (by simp)
              rw [← h1, ← v1] at hr
              exact step_new (x := ⟨true, true, ety, esz, new⟩) R hd hf rfl hg (Chg.drew _ _)
                (fun θ' e => by simp only [VRel]; exact ⟨_, _, _, _, e, rfl, grownCap_ge w m 0 ety, rfl, trivial⟩) (app_run ho hr)
            · rename_i id off
              split at h
              · rename_i c
                cases hc : Nat.ble (n + m) c with
                | true =>
                  rw [hc, cond_true] at h
                  have hc := Nat.le_of_ble_eq_true hc
                  split at h
                  · rename_i xb hxb
                    obtain ⟨x1, x2, x3⟩ := ownAt_of hxb
                    cases hq : (Nat.beq off 0 && Nat.beq xb.ty ety && Nat.ble ((n + m) * esz) xb.cells.length) with
                    | false => simp [hq] at h
                    | true =>
                      rw [hq, cond_true] at h
                      simp only [Bool.and_eq_true] at hq
                      have q1 := beq_true.1 hq.1.1; have q2 := beq_true.1 hq.1.2; have q3 := Nat.le_of_ble_eq_true hq.2
                      subst q1; subst q2
                      refine ⟨_, _, h, Nat.le_refl _, fun F θ σ a w R hd ag _ agh _ => ?_⟩
                      have h1 := xn_rel R ok.1 hv ag.left
                      obtain ⟨ad, cb, news, v1, v2, v3, v4, v5⟩ := src R ag.right (fun id hid => agh.1 id (by simp [hid]))
                      simp only [VRel] at h1
                      obtain ⟨b, o', c', cap', e1, e2, e3, e4⟩ := h1
                      have hFh : F.hp id = some xb := by rw [agh.1 id (by simp)]; exact x1
                      obtain ⟨b', o'', c'', g1, g0, g2⟩ := R.m.hp id xb hFh
                      rw [e1] at g1; cases g1
                      subst e4
                      unfold BRel at g2; rw [if_pos x2] at g2
                      obtain ⟨rfl, arr, g3, g4, g5, g6⟩ := g2
                      simp only [Nat.zero_add] at e2
                      have l2 : news.length = m * esz := by rw [v2, t4]
                      have l3 : n * esz + news.length ≤ xb.cells.length := by rw [l2, ← Nat.add_mul]; exact q3
                      have l4 := v3.length
                      have hr := run_append_room (P := P) w t o.type xb.ty i t1 t2 b n cap' arr g3 ad m cb news v2 v4 v5 hc (by rw [t4]; omega)
                      rw [← e2, ← v1, t4] at hr
                      have hsp : arr.toList.take (n * esz) ++ news ++ arr.toList.drop (n * esz + news.length) = splice arr.toList (n * esz) news := (splice_eq _ _ _ (by simp; omega)).symm
                      rw [hsp] at hr
                      have hlen : (splice xb.cells (n * esz) new).length = xb.cells.length := splice_length _ _ _ (by omega)
                      refine step_val (app_run ho hr) (Th.ext_refl _ _ _)
                        ⟨R.m.set (x' := { xb with cells := splice xb.cells (n * esz) new }) hFh x2 x3 e1 (by funext q; simp [FS.put, lget_nil, lget_cns]) (fun id' => ?_) x2 rfl ⟨?_, ?_, ?_⟩ (Chg.row _ _ _) (by rw [setRow_heap w b arr _ xb.ty (0, 0) g3]),
                         R.t.step (Th.le_refl _) (fun _ _ => rfl) hd (fun y hy => ?_) (fun _ _ e => by cases e)⟩
                      · simp only [FS.put, hlook_nl, hlook_cns]
                        by_cases e : id = id'
                        · simp [e, beq_true.2]
                        · simp [e, beq_false.2 e]
                      · simp only [hlen, List.size_toArray]; rw [splice_length _ _ _ (by simp; omega)]; simpa using g4
                      · simp only [hlen]
                        rw [splice_take _ _ _ _ (by omega)]
                        exact g5.splice v3 (n * esz) (by omega)
                      · simp only [hlen, List.size_toArray]; rw [splice_length _ _ _ (by simp; omega)]; simpa using g6
                      · simp only [Option.some.injEq] at hy; subst hy
                        refine TRel.of ?_
                        simp only [VRel]
                        exact ⟨b, 0, _, cap', e1, by simp, hc, rfl⟩
                  · cases h
                | false =>
                  rw [hc, cond_false] at h
                  have hc : c < n + m := by
                    rcases Nat.lt_or_ge c (n + m) with q | q
                    · exact q
                    · rw [Nat.ble_eq_true_of_le q] at hc; cases hc
                  split at h
                  · rename_i olds hold
                    obtain ⟨xb, hxb, hxl, hoc⟩ := oldCells_of hold
                    refine ⟨_, _, h, by simp, fun F θ σ a w R hd ag _ agh hf => ?_⟩
                    have h1 := xn_rel R ok.1 hv ag.left
                    obtain ⟨ad, cb, news, v1, v2, v3, v4, v5⟩ := src R ag.right (fun id hid => agh.1 id (by simp [hid]))
                    simp only [VRel] at h1
                    obtain ⟨b, o', c', cap', e1, e2, e3, e4⟩ := h1
                    subst e4
                    obtain ⟨b', o'', c'', g1, g0, g2⟩ := R.m.hp id xb (by rw [agh.1 id (by simp)]; exact hxb)
                    rw [e1] at g1; cases g1
                    obtain ⟨us, u1, u2, u3⟩ := cells_at g2 hxl
                    rw [← hoc] at u2
                    have hr := run_append_grow (P := P) w t o.type ety i z t1 t2 t3 _ n cap' us (by rw [u1, t4]) u3 ad m cb news v2 v4 (by omega) (by simp only [maxLen] at hnm; omega) (by rw [t5]; exact growslice_fits (by omega) hby)
                    have hg := grown_row (P := P) (θ := θ) (olds := us) (news := news) (cs := olds ++ new) (need := n + m) (old := cap') (w := w) t2 t4 t6 (u2.append v3) (by rw [List.length_append, u1, v2, t4, Nat.add_mul]) hnm _ rfl
                    rw [← e2, ← v1] at hr
                    exact step_new (x := ⟨true, true, ety, esz, olds ++ new⟩) R hd hf rfl hg (Chg.drew _ _)
                      (fun θ' e => by simp only [VRel]; exact ⟨_, _, _, _, e, rfl, grownCap_ge w (n + m) cap' ety, rfl, trivial⟩) (app_run ho hr)
                  · cases h
              · split at h
                · rename_i xb hxb
                  obtain ⟨x1, x2, x3⟩ := ownAt_of hxb
                  cases hq : (xb.opn && Nat.beq xb.ty ety && Nat.beq (n * esz) xb.cells.length) with
                  | false => simp [hq] at h
                  | true =>
                    rw [hq, cond_true] at h
                    simp only [Bool.and_eq_true] at hq
                    have q1 := hq.1.1; have q2 := beq_true.1 hq.1.2; have q3 := beq_true.1 hq.2
                    subst q2
                    refine ⟨_, _, h, by simp, fun F θ σ a w R hd ag _ agh hf => ?_⟩
                    have h1 := xn_rel R ok.1 hv ag.left
                    obtain ⟨ad, cb, news, v1, v2, v3, v4, v5⟩ := src R ag.right (fun id hid => agh.1 id (by simp [hid]))
                    simp only [VRel] at h1
                    obtain ⟨b, o', c', cap', e1, e2, e3, e4, e5⟩ := h1
                    subst e4; subst e5
                    have hFh : F.hp id = some xb := by rw [agh.1 id (by simp)]; exact x1
                    obtain ⟨b', o'', c'', g1, g0, g2⟩ := R.m.hp id xb hFh
                    rw [e1] at g1; cases g1
                    have hfree : θ s.n = none := hf s.n (Nat.le_refl _) (by simp)
                    have hne : id ≠ s.n := fun e => by subst e; rw [hfree] at e1; cases e1
                    by_cases hroom : n + m ≤ cap'
                    · unfold BRel at g2; rw [if_pos x2] at g2
                      obtain ⟨rfl, arr, g3, g4, g5, g6⟩ := g2
                      rw [if_pos q1] at g6
                      have hce : P.cellsOf xb.ty = esz := by simp [Program.cellsOf, t2, t4]
                      rw [hce] at g6
                      simp only [Nat.zero_add] at e2
                      have l2 : news.length = m * esz := by rw [v2, t4]
                      have l3 : n * esz + news.length ≤ arr.size := by rw [l2, ← Nat.add_mul, g6.1]; exact Nat.mul_le_mul_right _ hroom
                      have l4 := v3.length
                      have hr := run_append_room (P := P) w t o.type xb.ty i t1 t2 b n cap' arr g3 ad m cb news v2 v4 v5 hroom (by rw [t4]; omega)
                      rw [← e2, ← v1, t4] at hr
                      have hlen : (xb.cells ++ new).length = n * esz + news.length := by rw [List.length_append]; omega
                      have R1 := R.m.set (F' := { F with hp := fun q => if id = q then some ⟨true, true, xb.ty, esz, xb.cells ++ new⟩ else F.hp q }) (w' := w.setRow b (arr.toList.take (n * esz) ++ news ++ arr.toList.drop (n * esz + news.length)).toArray)
                        (x' := ⟨true, true, xb.ty, esz, xb.cells ++ new⟩) (arr := (arr.toList.take (n * esz) ++ news ++ arr.toList.drop (n * esz + news.length)).toArray) hFh x2 x3 e1 rfl (fun _ => rfl) rfl rfl ⟨by
                          simp only [hlen, List.size_toArray, List.length_append, List.length_take, List.length_drop, Array.length_toList]; omega, by
                          simp only [hlen]
                          rw [List.take_append_of_le_length (by simp; omega), List.take_of_length_le (by simp; omega)]
                          rw [q3]; exact g5.append v3, by
                          simp only [if_true, hce, List.size_toArray, List.length_append, List.length_take, List.length_drop, Array.length_toList]
                          exact ⟨by omega, g6.2⟩⟩ (Chg.row _ _ _) (by rw [setRow_heap w b arr _ xb.ty (0, 0) g3])
                      have R2 := R1.renumber (F' := F.put o.dst ⟨some (.sl (some (s.n, 0)) (n + m) .op), [], [(id, none), (s.n, some ⟨true, true, xb.ty, esz, xb.cells ++ new⟩)], s.n + 1, none⟩) (n := id) (m := s.n)
                        (x := ⟨true, true, xb.ty, esz, xb.cells ++ new⟩) (by simp) rfl x3 e1 hfree (by funext q; simp [FS.put, lget_nil, lget_cns]) (fun q => by
                          simp only [FS.put, hlook_nl, hlook_cns]
                          by_cases e : s.n = q
                          · subst e; simp [beq_false.2 hne, beq_true.2]
                          · by_cases e' : id = q
                            · subst e'; simp [beq_true.2, e]
                            · simp [beq_false.2 e, beq_false.2 e', e, e'])
                      refine step_val (θ' := θ.upd s.n (b, 0, cap')) (app_run ho hr) ⟨fun q => ?_, fun _ _ _ e => e⟩ ⟨R2, R.t.step ⟨fun q t e => ?_, fun _ _ _ e => e⟩ (fun _ _ => rfl) hd (fun y hy => ?_) (fun _ _ e => by cases e)⟩
                      · by_cases e : s.n = q
                        · exact .inr ⟨by rw [← e]; exact hfree, by omega, by simp only; omega⟩
                        · exact .inl (by simp [Th.upd, e])
                      · by_cases e' : s.n = q
                        · subst e'; rw [hfree] at e; cases e
                        · simp [Th.upd, e', e]
                      · simp only [Option.some.injEq] at hy; subst hy
                        refine TRel.of ?_
                        simp only [VRel]
                        exact ⟨b, 0, cap', cap', by simp [Th.upd], by simp, hroom, rfl, trivial⟩
                    · obtain ⟨us, u1, u2, u3⟩ := cells_at g2 (off := 0) (n := n * esz) (by omega)
                      have hoc : (xb.cells.drop 0).take (n * esz) = xb.cells := by rw [List.drop_zero, List.take_of_length_le (by omega)]
                      rw [hoc] at u2
                      have hr := run_append_grow (P := P) w t o.type xb.ty i z t1 t2 t3 _ n cap' us (by rw [u1, t4]) u3 ad m cb news v2 v4 (by omega) (by simp only [maxLen] at hnm; omega) (by rw [t5]; exact growslice_fits (by omega) hby)
                      have hg := grown_row (P := P) (θ := θ) (olds := us) (news := news) (cs := xb.cells ++ new) (need := n + m) (old := cap') (w := w) t2 t4 t6 (u2.append v3) (by rw [List.length_append, u1, v2, t4, Nat.add_mul]) hnm _ rfl
                      rw [← e2, ← v1] at hr
                      have RF : Rep P C θ σ { F with hp := fun q => if id = q then none else F.hp q } a w := ⟨R.m.forget rfl (fun q x hx => by
                        simp only at hx
                        by_cases e : id = q
                        · rw [if_pos e] at hx; cases hx
                        · rw [if_neg e] at hx; exact hx), ⟨R.t.size, R.t.defers, R.t.tmp, R.t.lpok⟩⟩
                      have st := step_new (x := ⟨true, true, xb.ty, esz, xb.cells ++ new⟩) (v := .sl (some (s.n, 0)) (n + m) .op) RF hd hf rfl hg (Chg.drew _ _)
                        (fun θ' e => by simp only [VRel]; exact ⟨_, _, _, _, e, rfl, grownCap_ge w (n + m) cap' xb.ty, rfl, trivial⟩) (app_run ho hr)
                      have ef : FS.put { F with hp := fun q => if id = q then none else F.hp q } o.dst ⟨some (.sl (some (s.n, 0)) (n + m) .op), [], [(s.n, some ⟨true, true, xb.ty, esz, xb.cells ++ new⟩)], s.n + 1, none⟩
                          = F.put o.dst ⟨some (.sl (some (s.n, 0)) (n + m) .op), [], [(id, none), (s.n, some ⟨true, true, xb.ty, esz, xb.cells ++ new⟩)], s.n + 1, none⟩ := by
                        unfold FS.put
                        congr 1
                        funext q
                        simp only [hlook_nl, hlook_cns]
                        by_cases e : id = q
                        · subst e; simp [beq_true.2, beq_false.2 (Ne.symm hne)]
                        · simp only [beq_false.2 e, cond_false, if_neg e]
                      rw [ef] at st
                      exact st
                · cases h
              · cases h
        · rename_i n cap cs
          cases hm : Nat.beq m 0 with
          | true =>
            rw [hm, cond_true] at h
            have hm := beq_true.1 hm
            refine ⟨_, _, h, Nat.le_refl _, fun F θ σ a w R hd ag _ agh _ => ?_⟩
            have h1 := xn_rel R ok.1 hv ag.left
            obtain ⟨a0, cap', e1, e2, _, _⟩ := vs_slice h1
            exact none0 (n := n) hm R hd ag (fun id hid => by
              subst hm
              unfold appNew at hnew
              split at hnew
              · rename_i pb m' capb
                cases hm : Nat.beq m' 0 with
                | true => rw [hm, cond_true] at hnew; simp only [Option.some.injEq, Prod.mk.injEq] at hnew; rw [← hnew.2.1] at hid; cases hid
                | false =>
                  rw [hm, cond_false] at hnew
                  split at hnew
                  · simp only [Option.some.injEq, Prod.mk.injEq] at hnew
                    rw [hnew.1] at hm; simp [beq_true.2] at hm
                  · cases hnew
              · rename_i m' capb cs
                revert hnew
                cases (Nat.ble (m' * esz) cs.length && (cs.take (m' * esz)).all AV.one) <;> intro hnew <;> simp at hnew
                rw [hnew.2.1] at hid; cases hid
              · cases hnew) a0 n cap' e1 e2 h1
          | false =>
            rw [hm, cond_false] at h
            have hm : 0 < m := Nat.pos_of_ne_zero (beq_false.1 hm)
            split at h
            · rename_i c
              cases hby : (Nat.ble ((n + m) * bytes) 140737488355328 && Nat.blt c (n + m) && Nat.ble (n * esz) cs.length) with
              | false => rw [hby] at h; cases h
              | true =>
                rw [hby, cond_true] at h
                simp only [Bool.and_eq_true] at hby
                obtain ⟨⟨by1, by2⟩, by3⟩ := hby
                have by1 := Nat.le_of_ble_eq_true by1
                rw [Nat.blt_eq] at by2
                have by3 := Nat.le_of_ble_eq_true by3
                have hnm : n + m ≤ maxLen := by
                  have : n + m ≤ (n + m) * bytes := Nat.le_mul_of_pos_right _ t8
                  simp only [maxLen]; omega
                refine ⟨_, _, h, by simp, fun F θ σ a w R hd ag _ agh hf => ?_⟩
                have h1 := xn_rel R ok.1 hv ag.left
                obtain ⟨b0, cb, v1, _, vv⟩ := srcA R ag.right (fun id hid => agh.1 id hid)
                obtain ⟨ad, news, rfl, v2, v3, v4, v5⟩ := vv hm
                simp only [VRel] at h1
                rcases h1 with ⟨b, o', cap', us, e1, e2, e3, e4, _, e5⟩ | ⟨e1, rfl, rfl, e3⟩
                · simp only [ACap.is] at e3; subst e3
                  have u1 : (us.take (n * esz)).length = n * esz := by have := e5.length; simp only [List.length_take]; omega
                  have hr := run_append_grow (P := P) w t o.type ety i z t1 t2 t3 ⟨b, o', none⟩ n cap' (us.take (n * esz)) (by rw [u1, t4]) (fun j u hu => by rw [add_off]; exact R.m.fzc _ _ _ (e4.take _ j u hu)) ad m cb news (by rw [v2, t4]) v4 (by omega) (by simp only [maxLen] at hnm; omega) (by rw [t5]; exact growslice_fits (by omega) by1)
                  have hg := grown_row (P := P) (θ := θ) (olds := us.take (n * esz)) (news := news) (cs := cs.take (n * esz) ++ new) (need := n + m) (old := cap') (w := w) t2 t4 t6 ((e5.take _).append v3) (by rw [List.length_append, u1, v2, Nat.add_mul]) hnm _ rfl
                  rw [← e1, ← v1] at hr
                  exact step_new (x := ⟨true, true, ety, esz, cs.take (n * esz) ++ new⟩) R hd hf rfl hg (Chg.drew _ _)
                    (fun θ' e => by simp only [VRel]; exact ⟨_, _, _, _, e, rfl, grownCap_ge w (n + m) cap' ety, rfl, trivial⟩) (app_run ho hr)
                · have hr := run_append_nil (P := P) w t o.type ety i z t1 t2 t3 ad m cb news (by rw [v2, t4]) v4 hm (by simp only [maxLen] at hnm; omega) (by rw [t5]; simp only [Nat.zero_add] at by1; omega)
                  have hg := grown_row (P := P) (θ := θ) (olds := []) (news := news) (cs := List.take (0 * esz) [] ++ new) (need := m) (old := 0) (w := w) t2 t4 t6 (by simpa using v3) (by simpa using v2) (by omega) (news.toArray ++ Builtin.zeroCells z.cells (grownCap w m 0 ety - m)) (by simp)
                  rw [← e1, ← v1] at hr
                  have hz : (0 + m) = m := Nat.zero_add m
                  rw [hz]
                  exact step_new (x := ⟨true, true, ety, esz, List.take (0 * esz) [] ++ new⟩) R hd hf rfl hg (Chg.drew _ _)
                    (fun θ' e => by simp only [VRel]; exact ⟨_, _, _, _, e, rfl, grownCap_ge w m 0 ety, rfl, trivial⟩) (app_run ho hr)
            · cases h
        · cases h
      · cases h
    · cases h
  · cases h

end
end Go.Proofs.YtogkkamlmklpkaaDoor.Ab
