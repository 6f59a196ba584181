/- Each operation of the abstract machine does what the model's operation does (seventh part: the call of a function). No condition: lemmas only. -/
import Derived.Test.YtogkkamlmklpkaaDoorA9
set_option linter.unusedVariables false
set_option linter.unusedSimpArgs false
namespace Go.Proofs.YtogkkamlmklpkaaDoor.Ab
open Go

mutual
theorem VRel.back {θ θ' : Th} {n : Nat} (h : ∀ id, id < n → θ' id = θ id) (hf : Th.fle θ' θ) : ∀ (a : AV) (v : Value), AV.old n a = true → VRel θ' a v → VRel θ a v
  | .b _, _, _, r => r
  | .i _ _, _, _, r => r
  | .f _ _, _, _, r => r
  | .c _ _ _, _, _, r => r
  | .s _, _, _, r => r
  | .p none, _, _, r => r
  | .p (some (id, _)), _, o, r => by
    simp only [VRel, AV.old] at r o ⊢
    rw [Nat.blt_eq] at o
    rw [h id o] at r
    exact r
  | .lp _ _, _, _, r => r
  | .sl none _ _, _, _, r => r
  | .sl (some (id, _)) _ _, _, o, r => by
    simp only [VRel, AV.old] at r o ⊢
    rw [Nat.blt_eq] at o
    rw [h id o] at r
    exact r
  | .fn _ f c, _, o, r => by
    simp only [VRel, AV.old, Bool.and_eq_true] at r o ⊢
    obtain ⟨x, y, rfl, h1, h2⟩ := r
    exact ⟨x, y, rfl, VRels.back h hf f _ o.1 h1, VRels.back h hf c _ o.2 h2⟩
  | .nilfn, _, _, r => r
  | .nilif, _, _, r => r
  | .agg cs, _, o, r => by
    simp only [VRel, AV.old] at r o ⊢
    obtain ⟨x, rfl, h1⟩ := r
    exact ⟨x, rfl, VRels.back h hf cs _ o h1⟩
  | .tup cs, _, o, r => by
    simp only [VRel, AV.old] at r o ⊢
    obtain ⟨x, rfl, h1⟩ := r
    exact ⟨x, rfl, VRels.back h hf cs _ o h1⟩
  | .vs _ _ cs, _, o, r => by
    simp only [VRel, AV.old] at r o ⊢
    rcases r with ⟨b, o', cap', us, rfl, h1, h2, h3, hr, h4⟩ | r
    · exact .inl ⟨b, o', cap', us, rfl, h1, h2, h3.mono hf, hr, VRels.back h hf cs _ o h4⟩
    · exact .inr r
  | .vp cs, _, o, r => by
    simp only [VRel, AV.old] at r o ⊢
    obtain ⟨b, o', us, rfl, h3, hr, h4⟩ := r
    exact ⟨b, o', us, rfl, h3.mono hf, hr, VRels.back h hf cs _ o h4⟩
theorem VRels.back {θ θ' : Th} {n : Nat} (h : ∀ id, id < n → θ' id = θ id) (hf : Th.fle θ' θ) : ∀ (a : List AV) (v : List Value), AV.olds n a = true → VRels θ' a v → VRels θ a v
  | [], _, _, r => r
  | a :: as, _, o, r => by
    simp only [VRels, AV.olds, Bool.and_eq_true] at r o ⊢
    obtain ⟨v, vs, rfl, h1, h2⟩ := r
    exact ⟨v, vs, rfl, VRel.back h hf a v o.1 h1, VRels.back h hf as vs o.2 h2⟩
end

/-! ### What an oracle's word is worth -/
/-- The memory that a call finds. -/
structure Mem (P : Program) (ng : Nat) (θ : Th) (h : AHeap) (w : World) : Prop where
  glob : ∀ g, g < ng → θ g = some (g, 0, 0)
  fin : ∃ B, ∀ id, B ≤ id → θ id = none
  hp : ∀ id x, hget h id = some x → ∃ b o c, θ id = some (b, o, c) ∧ b < w.heap.size ∧ BRel P θ x b o c w
  dhh : ∀ id id' x x' b o c o' c', hget h id = some x → x.own = true → hget h id' = some x' → id ≠ id' → θ id = some (b, o, c) → θ id' = some (b, o', c') → False
  fzc : ∀ b o u, θ.fz b o = some u → w.cell? ⟨b, o, none⟩ = some u
  fzh : ∀ id x b o c o' u, hget h id = some x → x.own = true → θ id = some (b, o, c) → θ.fz b o' = some u → False

def M0 (h : AHeap) (fl : Nat) (θ : Th) (b : Nat) : Prop := ∃ id x o c, hget h id = some x ∧ x.own = true ∧ fl ≤ id ∧ θ id = some (b, o, c)
def B0 (h : AHeap) (θ : Th) (b : Nat) : Prop := ∃ id x o c, hget h id = some x ∧ θ id = some (b, o, c)
def cx (w : World) (h : AHeap) (fl ng : Nat) (θ : Th) (N : Nat) : Cx := ⟨w, M0 h fl θ, B0 h θ, fl, ng, N, θ.fz⟩
noncomputable def F0 (h : AHeap) : FS := ⟨fun _ => none, fun _ => none, hget h⟩

theorem Mem.rep {P : Program} {ng : Nat} {θ : Th} {h : AHeap} {w : World} (m : Mem P ng θ h w) (fl N : Nat) (σ : Nat → Option Nat) : RepM P (cx w h fl ng θ N) θ σ (F0 h) w where
  glob := m.glob
  fin := m.fin
  loc s cs e := by simp [F0] at e
  dll s s' cs cs' e := by simp [F0] at e
  hp := m.hp
  dlh s cs id x b o c e := by simp [F0] at e
  dhh := m.dhh
  ownok id x b o c e q f t := .inl ⟨id, x, o, c, e, q, f, t⟩
  bok id x b o c e t := .inl ⟨id, x, o, c, e, t⟩
  chg := Chg.refl _ _
  fzc := m.fzc
  fzl s cs b o u e := by simp [F0] at e
  fzh := m.fzh
  fzn _ _ _ e := .inl e

theorem RepM.mem {P : Program} {C : Cx} {θ : Th} {σ : Nat → Option Nat} {F : FS} {w : World} (R : RepM P C θ σ F w) {h : AHeap} (hF : ∀ id x, hget h id = some x → F.hp id = some x) : Mem P C.ng θ h w :=
  ⟨R.glob, R.fin, fun id x e => R.hp id x (hF id x e), fun id id' x x' b o c o' c' e q e' => R.dhh id id' x x' b o c o' c' (hF id x e) q (hF id' x' e'), R.fzc, fun id x b o c o' u e => R.fzh id x b o c o' u (hF id x e)⟩

def CallOk (P : Program) (g : Nat) : Prop := ∃ fn c, P.funcs[g]? = some fn ∧ fn.body = some c ∧ (fn.name == "runtime.NumGoroutine") = false

/-- What a call has done. -/
def Did (P : Program) (ng : Nat) (h : AHeap) (n fl : Nat) (θ : Th) (w : World) (v : AV) (r : Option (AHeap × Nat)) (e : Ending) (w' : World) : Prop :=
  ∃ u, e = .returned u ∧ match r with
    | none => ∃ φ : Nat → Nat → Option Value, Th.fle θ ⟨θ.pl, φ⟩ ∧ (∀ b o u, φ b o = some u → θ.fz b o = some u ∨ (w.heap.size ≤ b ∧ w'.cell? ⟨b, o, none⟩ = some u)) ∧ VRel ⟨θ.pl, φ⟩ v u ∧ Chg (fun _ => False) w w'
    | some (h', n') => ∃ θ', Th.ext θ θ' n n' ∧ VRel θ' v u ∧ RepM P (cx w h fl ng θ 0) θ' (fun _ => none) (F0 h') w'
def FreeR (θ : Th) (n : Nat) : Option (AHeap × Nat) → Prop
  | none => True
  | some (_, n') => Free θ n n'

def OSound (P : Program) (ng : Nat) (O : Orc) : Prop := ∀ g args h n fl v r, O g args h n fl = some (v, r) → CallOk P g ∧ (HB h n → (match r with | none => True | some (h', n') => Heir h n h' n') ∧
  ∀ (θ : Th) (w : World) (cargs : Array Value), Mem P ng θ h w → VRels θ args cargs.toList → FreeR θ n r → Calls P g cargs w (Did P ng h n fl θ w v r))

theorem OSound.heir {P : Program} {ng : Nat} {O : Orc} (h : OSound P ng O) : OHeir O := fun g args hh n fl v h' n' e hb => ((h g args hh n fl v _ e).2 hb).1

section
variable {P : Program} {C : Cx} {O : Orc} {s : AS} {o : Oper} {k : Eff → Foot → Option Res} {r : Res}

theorem step_call {θ : Th} {σ : Nat → Option Nat} {a : Act} {w : World} {lo hi g : Nat} {cargs : Array Value} {F' : FS} {X : Ending → World → Prop} (hrun : (execOp a.eval o).run P w = .ok (.enter g cargs) w) (hc : Calls P g cargs w X)
    (h : ∀ e w', X e w' → ∃ u θ' σ', e = .returned u ∧ Th.ext θ θ' lo hi ∧ Rep P C θ' σ' F' (a.put o.dst u) w') : StepTo P C θ σ lo hi o a w F' := fun K Q hk => by
  unfold Oper.wp
  rw [hrun, Oper.upon_enter]
  refine hc.mono fun e w' hx => ?_
  obtain ⟨u, θ', σ', rfl, h1, h2⟩ := h e w' hx
  exact hk θ' σ' _ _ h1 h2

theorem call_run {f' : Operand} {xs : Array Operand} {ts : Array TypeId} {g : Nat} {f1 c1 : Array Value} {a : Act} {w : World} (ho : o.op = .call { callee := .value f', args := xs, argTypes := ts }) (hf : a.eval f' = .func (.func g) f1 c1)
    (hg : CallOk P g) : (execOp a.eval o).run P w = .ok (.enter g ((f1 ++ xs.map a.eval) ++ c1)) w := by
  obtain ⟨fn, c, h1, h2, h3⟩ := hg
  have h3' : ¬ fn.name = "runtime.NumGoroutine" := by simpa using h3
  simp [execOp, ho, resolve, Deferred.ofValue, hf, invoke, callFunc, h1, h2, h3']

theorem M0_none {h : AHeap} {n m : Nat} {θ : Th} (hb : HB h n) (hm : n ≤ m) {b : Nat} : ¬ M0 h m θ b := fun ⟨id, x, _, _, e, _, f, _⟩ => by
  have := hb id x e; omega

theorem s_call {mode : Nat} {f : AX} {args : List AX} {f' : Operand} {xs : Array Operand} {ts : Array TypeId} (hO : OSound P C.ng O) (hb : HB s.h s.n) (ho : o.op = .call { callee := .value f', args := xs, argTypes := ts })
    (ok : okX C.ng f' f = true ∧ okXs C.ng xs.toList args = true)
    (h : evOp O C.fl o.dst (.call mode f args) s k = some r) : OpS P C s o (.call mode f args) k r := by
  simp only [evOp_mv, evOp_nchk, evOp_pop, evOp_pick, evOp_alloc_true, evOp_alloc_false, evOp_box_true, evOp_box_false, evOp_build, evOp_bslice, evOp_load, evOp_store, evOp_bin, evOp_eqs, evOp_eqb, evOp_eqnil, evOp_un, evOp_conv, evOp_fadr, evOp_fld, evOp_iadr, evOp_iadra, evOp_idx, evOp_idxs, evOp_slc, evOp_ext, evOp_mkf, evOp_mks, evOp_call, evOp_len_false, evOp_len_true, evOp_app, evOp_mm] at h
  split at h
  · rename_i g f1 c1 hv
    split at h
    · rename_i as has
      have prep : ∀ {F : FS} {θ : Th} {σ : Nat → Option Nat} {a : Act} {w : World}, Rep P C θ σ F a w → AgT F s.fr (AOp.call mode f args).rd → CallOk P g →
          ∃ cargs, (execOp a.eval o).run P w = .ok (.enter g cargs) w ∧ VRels θ (f1 ++ as ++ c1) cargs.toList := by
        intro F θ σ a w R ag hg
        have h1 := xn_rel R ok.1 hv ag.left
        have h2 := xns_rel R xs.toList args as (okXs_of ok.2).1 (okXs_of ok.2).2 has ag.right
        simp only [VRel] at h1
        obtain ⟨fa, ca, e1, e2, e3⟩ := h1
        refine ⟨_, call_run ho e1 hg, ?_⟩
        simp only [Array.toList_append, Array.toList_map]
        exact (e2.append h2).append e3
      split at h
      · cases h
      · rename_i v hO'
        obtain ⟨hg, hs⟩ := hO _ _ _ _ _ _ _ hO'
        obtain ⟨_, hs⟩ := hs hb
        cases hl : v.islp with
        | true => simp [hl] at h
        | false =>
          rw [hl, cond_false] at h
          refine ⟨_, _, h, Nat.le_refl _, fun F θ σ a w R hd ag _ agh _ => ?_⟩
          obtain ⟨cargs, hr, ha⟩ := prep R ag hg
          have hm := R.m.mem (h := s.h) (agh.2 rfl)
          refine step_call hr (hs θ w cargs hm ha trivial) fun e w' hx => ?_
          obtain ⟨u, rfl, φ, hf1, hf2, hu, hc⟩ := hx
          exact ⟨u, ⟨θ.pl, φ⟩, σ, rfl, ⟨fun _ => .inl rfl, hf1⟩, R.m.grow (FS.put_v_loc ..) (FS.put_v_hp ..) hc hf1 hf2, R.t.step ⟨fun _ _ e => e, hf1⟩ (fun _ _ => rfl) hd (fun x hx => by cases hx; exact TRel.of hu) (fun s' off e => by
            simp only [Eff.v, Option.some.injEq] at e
            subst e; simp [VRel] at hu)⟩
      · rename_i v h' n' hO'
        obtain ⟨hg, hs⟩ := hO _ _ _ _ _ _ _ hO'
        obtain ⟨hh, hs⟩ := hs hb
        cases hl : v.islp with
        | true => simp [hl] at h
        | false =>
          rw [hl, cond_false] at h
          split at h
          · -- a scalar
            cases hold : AV.old s.n v with
            | false => simp [hold] at h
            | true =>
              rw [hold, cond_true] at h
              refine ⟨_, _, h, hh.1, fun F θ σ a w R hd ag _ agh hf => ?_⟩
              obtain ⟨cargs, hr, ha⟩ := prep R ag hg
              have hm := R.m.mem (h := s.h) (agh.2 rfl)
              refine step_call hr (hs θ w cargs hm ha hf) fun e w' hx => ?_
              obtain ⟨u, rfl, θ', he, hu, hc⟩ := hx
              have hu' : VRel ⟨θ.pl, θ'.fz⟩ v u := VRel.back (θ := ⟨θ.pl, θ'.fz⟩) (θ' := θ') (fun id hid => by
                rcases he.pl id with q | ⟨_, q, _⟩
                · exact q
                · omega) (Th.fle_refl _) v u hold hu
              have hchg : Chg (fun _ => False) w w' := hc.chg.mono fun b _ q => (M0_none hb (by simp only [cx, callFl]; omega) q).elim
              exact ⟨u, ⟨θ.pl, θ'.fz⟩, σ, rfl, ⟨fun _ => .inl rfl, he.fz⟩, R.m.grow (FS.put_v_loc ..) (FS.put_v_hp ..) hchg he.fz (fun b o u e => by
                rcases hc.fzn b o u e with q | q
                · exact .inl q
                · exact .inr ⟨q, hc.fzc b o u e⟩), R.t.step ⟨fun _ _ e => e, he.fz⟩ (fun _ _ => rfl) hd (fun x hx => by cases hx; exact TRel.of hu') (fun s' off e => by
                simp only [Eff.v, Option.some.injEq] at e
                subst e; simp [VRel] at hu')⟩
          · -- new blocks alone
            refine ⟨_, _, h, hh.1, fun F θ σ a w R hd ag _ agh hf => ?_⟩
            obtain ⟨cargs, hr, ha⟩ := prep R ag hg
            have hm := R.m.mem (h := s.h) (agh.2 rfl)
            refine step_call hr (hs θ w cargs hm ha hf) fun e w' hx => ?_
            obtain ⟨u, rfl, θ', he, hu, hc⟩ := hx
            have hchg : Chg (fun _ => False) w w' := hc.chg.mono fun b _ q => (M0_none hb (Nat.le_refl _) q).elim
            have hle := he.le
            have hget' : ∀ id, (F.put o.dst ⟨some v, [], (hnew h' s.n).map fun p => (p.1, some p.2), n', none⟩).hp id = if s.n ≤ id then (hget h' id).or (F.hp id) else F.hp id := fun id => by
              simp only [FS.put, hlook_map, hget_hnew]
              by_cases q : s.n ≤ id
              · simp only [if_pos q]; cases hget h' id <;> rfl
              · simp only [if_neg q]; rfl
            -- a new block's place
            have hnewb : ∀ id x b o' c, s.n ≤ id → hget h' id = some x → θ' id = some (b, o', c) → w.heap.size ≤ b ∧ x.own = true := fun id x b o' c h1 h2 h3 => by
              have hown : x.own = true := by
                rcases hh.2 id x h2 with ⟨y, hy, _⟩ | ⟨_, _, q⟩
                · have := hb id y hy; omega
                · exact q
              rcases hc.ownok id x b o' c h2 hown h1 h3 with q | q
              · exact (M0_none hb (Nat.le_refl _) q).elim
              · exact ⟨q, hown⟩
            have oldT : ∀ id x b o' c, F.hp id = some x → θ' id = some (b, o', c) → θ id = some (b, o', c) := fun id x b o' c h1 h2 => by
              obtain ⟨b1, o1, c1, e1, _⟩ := R.m.hp id x h1
              rw [hle _ _ e1] at h2; rw [e1]; exact h2
            have oldb : ∀ id x b o' c, F.hp id = some x → θ' id = some (b, o', c) → b < w.heap.size := fun id x b o' c h1 h2 => by
              obtain ⟨b1, o1, c1, e1, e2, _⟩ := R.m.hp id x h1
              rw [hle _ _ e1] at h2; cases h2; exact e2
            have cas : ∀ id x, (F.put o.dst ⟨some v, [], (hnew h' s.n).map fun p => (p.1, some p.2), n', none⟩).hp id = some x → (s.n ≤ id ∧ hget h' id = some x) ∨ F.hp id = some x := fun id x hx => by
              rw [hget'] at hx
              split at hx
              · rename_i q
                cases q' : hget h' id with
                | none => rw [q'] at hx; exact .inr hx
                | some y => rw [q'] at hx; exact .inl ⟨q, hx⟩
              · exact .inr hx
            refine ⟨u, θ', σ, rfl, he, ⟨hc.glob, hc.fin, fun s' cs e => ?_, fun s' s2 cs cs2 e e2 => R.m.dll s' s2 cs cs2 e e2, fun id x hx => ?_, fun s' cs id x b o' c e hx ht => ?_, fun id id' x x' b o1 c1 o2 c2 hx hq hx' hne ht ht' => ?_,
              fun id x b o1 c1 hx hq hfl ht => ?_, fun id x b o1 c1 hx ht => ?_, R.m.chg.trans hchg (fun _ _ q => q.elim), hc.fzc, fun s' cs b o u e e1 e2 => ?_, fun id x b o c o' u hx hq e1 e2 => ?_, fun b o u e => ?_⟩, R.t.step hle (fun _ _ => rfl) hd (fun x hx => by cases hx; exact TRel.of hu) (fun s' off e => by
                simp only [Option.some.injEq] at e
                subst e; simp [VRel] at hu)⟩
            · obtain ⟨b, arr, ty, g1, g2, g3, g4⟩ := R.m.loc s' cs e
              exact ⟨b, arr, ty, g1, g2, by rw [hchg.block b (hlt g3) (fun q => q)]; exact g3, VRels.mono hle _ _ g4⟩
            · rcases cas id x hx with ⟨q1, q2⟩ | q
              · exact hc.hp id x q2
              · obtain ⟨b, o1, c1, g1, g2, g3⟩ := R.m.hp id x q
                exact ⟨b, o1, c1, hle _ _ g1, Nat.lt_of_lt_of_le g2 hchg.size, g3.keep P hle hchg (fun q => q)⟩
            · rcases cas id x hx with ⟨q1, q2⟩ | q
              · have := (hnewb id x b o' c q1 q2 ht).1
                obtain ⟨b', arr, ty, g1, g2, g3, g4⟩ := R.m.loc s' cs e
                intro z; rw [g1] at z; cases z
                exact absurd (hlt g3) (by omega)
              · exact R.m.dlh s' cs id x b o' c e q (oldT id x b o' c q ht)
            · rcases cas id x hx with ⟨q1, q2⟩ | q <;> rcases cas id' x' hx' with ⟨q1', q2'⟩ | q'
              · exact hc.dhh id id' x x' b o1 c1 o2 c2 q2 hq q2' hne ht ht'
              · have := (hnewb id x b o1 c1 q1 q2 ht).1
                have := oldb id' x' b o2 c2 q' ht'
                omega
              · have := (hnewb id' x' b o2 c2 q1' q2' ht').1
                have := oldb id x b o1 c1 q ht
                omega
              · exact R.m.dhh id id' x x' b o1 c1 o2 c2 q hq q' hne (oldT _ _ _ _ _ q ht) (oldT _ _ _ _ _ q' ht')
            · rcases cas id x hx with ⟨q1, q2⟩ | q
              · exact .inr (Nat.le_trans R.m.chg.size (hnewb id x b o1 c1 q1 q2 ht).1)
              · exact R.m.ownok id x b o1 c1 q hq hfl (oldT _ _ _ _ _ q ht)
            · rcases cas id x hx with ⟨q1, q2⟩ | q
              · exact .inr (Nat.le_trans R.m.chg.size (hnewb id x b o1 c1 q1 q2 ht).1)
              · exact R.m.bok id x b o1 c1 q (oldT _ _ _ _ _ q ht)
            · rcases hc.fzn b o u e2 with q | q
              · exact R.m.fzl s' cs b o u e e1 q
              · obtain ⟨b', arr, ty, g1, g2, g3, g4⟩ := R.m.loc s' cs e
                rw [e1] at g1; cases g1
                have : w.heap.size ≤ b := q
                exact absurd (hlt g3) (by omega)
            · rcases cas id x hx with ⟨q1, q2⟩ | q
              · exact hc.fzh id x b o c o' u q2 hq e1 e2
              · rcases hc.fzn b o' u e2 with z | z
                · exact R.m.fzh id x b o c o' u q hq (oldT _ _ _ _ _ q e1) z
                · have : w.heap.size ≤ b := z
                  have := oldb id x b o c q e1
                  omega
            · rcases hc.fzn b o u e with q | q
              · exact R.m.fzn b o u q
              · exact .inr (Nat.le_trans R.m.chg.size q)
          · -- whatever
            rename_i hm0 hm1
            refine ⟨_, _, h, hh.1, fun F θ σ a w R hd ag _ agh hf => ?_⟩
            obtain ⟨cargs, hr, ha⟩ := prep R ag hg
            have hm := R.m.mem (h := s.h) (agh.2 rfl)
            refine step_call hr (hs θ w cargs hm ha hf) fun e w' hx => ?_
            obtain ⟨u, rfl, θ', he, hu, hc⟩ := hx
            have hle := he.le
            have hfl : callFl mode C.fl s.n = C.fl := by
              unfold callFl; split
              · exact (hm0 rfl).elim
              · exact (hm1 rfl).elim
              · rfl
            rw [hfl] at hc
            -- what it may have written
            have own : ∀ b, M0 s.h C.fl θ b → C.M0 b ∨ C.w0.heap.size ≤ b := fun b ⟨id, x, o', c, e, q, f, t⟩ => R.m.ownok id x b o' c (agh.2 rfl id x e) q f t
            have bk : ∀ b, B0 s.h θ b → C.B0 b ∨ C.w0.heap.size ≤ b := fun b ⟨id, x, o', c, e, t⟩ => R.m.bok id x b o' c (agh.2 rfl id x e) t
            have slot : ∀ s' cs b, F.loc s' = some cs → σ s' = some b → ¬ B0 s.h θ b := fun s' cs b e1 e2 ⟨id, x, o', c, e, t⟩ => R.m.dlh s' cs id x b o' c e1 (agh.2 rfl id x e) t e2
            have slotM : ∀ s' cs b, F.loc s' = some cs → σ s' = some b → ¬ M0 s.h C.fl θ b := fun s' cs b e1 e2 ⟨id, x, o', c, e, _, _, t⟩ => slot s' cs b e1 e2 ⟨id, x, o', c, e, t⟩
            refine ⟨u, θ', σ, rfl, he, ⟨hc.glob, hc.fin, fun s' cs e => ?_, fun s' s2 cs cs2 e e2 => R.m.dll s' s2 cs cs2 e e2, hc.hp, fun s' cs id x b o' c e hx ht z => ?_, hc.dhh,
              fun id x b o1 c1 hx hq hfl' ht => ?_, fun id x b o1 c1 hx ht => ?_, R.m.chg.trans hc.chg (fun b hlt' q => ?_), hc.fzc, fun s' cs b o u e e1 e2 => ?_, hc.fzh, fun b o u e => ?_⟩, R.t.step hle (fun _ _ => rfl) hd (fun x hx => by cases hx; exact TRel.of hu) (fun s' off e => by
                simp only [Option.some.injEq] at e
                subst e; simp [VRel] at hu)⟩
            · obtain ⟨b, arr, ty, g1, g2, g3, g4⟩ := R.m.loc s' cs e
              exact ⟨b, arr, ty, g1, g2, by rw [hc.chg.block b (hlt g3) (slotM s' cs b e g1)]; exact g3, VRels.mono hle _ _ g4⟩
            · obtain ⟨b', arr, ty, g1, g2, g3, g4⟩ := R.m.loc s' cs e
              rw [z] at g1; cases g1
              rcases hc.bok id x b o' c hx ht with q | q
              · exact slot s' cs b e z q
              · exact absurd (hlt g3) (by have : w.heap.size ≤ b := q; omega)
            · rcases hc.ownok id x b o1 c1 hx hq hfl' ht with q | q
              · exact own b q
              · exact .inr (Nat.le_trans R.m.chg.size q)
            · rcases hc.bok id x b o1 c1 hx ht with q | q
              · exact bk b q
              · exact .inr (Nat.le_trans R.m.chg.size q)
            · rcases own b q with z | z
              · exact z
              · omega
            · rcases hc.fzn b o u e2 with q | q
              · exact R.m.fzl s' cs b o u e e1 q
              · obtain ⟨b', arr, ty, g1, g2, g3, g4⟩ := R.m.loc s' cs e
                rw [e1] at g1; cases g1
                have : w.heap.size ≤ b := q
                exact absurd (hlt g3) (by omega)
            · rcases hc.fzn b o u e with q | q
              · exact R.m.fzn b o u q
              · exact .inr (Nat.le_trans R.m.chg.size q)
    · cases h
  · cases h

end
end Go.Proofs.YtogkkamlmklpkaaDoor.Ab
