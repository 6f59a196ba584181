/- Code whose cuts number the blocks anew, in a small memory: what is evaluated is what the program does. No condition: lemmas only. -/
import Derived.Test.YtogkkamlmklpkaaDoorA17
set_option linter.unusedVariables false
set_option linter.unusedSimpArgs false
namespace Go.Proofs.YtogkkamlmklpkaaDoor.Ab
open Go

/-- The state of the walk in a small memory. -/
structure Good2 (P : Program) (C : Cx) (θ0 : Th) (n0 : Nat) (s : AS) (a : Act) (w : World) : Prop where
  ex : ∃ θ σ, Rep P C θ σ s.fs a w ∧ Th.ext θ0 θ n0 s.n
  hb : HB s.h s.n
  le : n0 ≤ s.n

section
variable {P : Program} {C : Cx} {O : Orc} {θ0 : Th} {n0 : Nat} {r : Res}

theorem ext_top {θ : Th} {hi : Nat} (ht : ∀ id, n0 ≤ id → θ0 id = none) (hx : Th.ext θ0 θ n0 hi) (hl : n0 ≤ hi) : ∀ id, hi ≤ id → θ id = none := fun id h => by
  rcases hx.pl id with q | ⟨_, _, q⟩
  · rw [q]; exact ht id (by omega)
  · omega
theorem Good2.good {s : AS} {a : Act} {w : World} (ht : ∀ id, n0 ≤ id → θ0 id = none) (g : Good2 P C θ0 n0 s a w) (nf : Nat) : Good P C θ0 n0 nf s a w := by
  obtain ⟨⟨θ, σ, R, hx⟩, hb, hle⟩ := g
  exact ⟨⟨θ, σ, R, hx, fun id h1 _ => ext_top ht hx hle id h1⟩, hb, hle⟩
theorem Good.good2 {nf : Nat} {s : AS} {a : Act} {w : World} (g : Good P C θ0 n0 nf s a w) : Good2 P C θ0 n0 s a w := by
  obtain ⟨⟨θ, σ, R, hx, _⟩, hb, hle⟩ := g
  exact ⟨⟨θ, σ, R, hx⟩, hb, hle⟩

theorem evLoop_sound2 {c : Code} {Q : Exit → Act → World → Prop} {body : AS → (AE → AS → Option Res) → Option Res}
    (hb : ∀ (s : AS) (a : Act) (w : World) (Q : Exit → Act → World → Prop) (k : AE → AS → Option Res), Good2 P C θ0 n0 s a w →
      (∀ e s' a' w', k e s' = some r → Good2 P C θ0 n0 s' a' w' → Q e.ex' a' w') → body s k = some r → c.wp P Q a w) {k : AE → AS → Option Res}
    (hk : ∀ e s' a' w', k e s' = some r → Good2 P C θ0 n0 s' a' w' → Q e.ex' a' w') :
    ∀ (f : Nat) (s : AS) (a : Act) (w : World), Good2 P C θ0 n0 s a w → evLoop body f s k = some r → Code.rounds P c Q f a w
  | 0, s, a, w, _, h => by simp [evLoop] at h
  | f + 1, s, a, w, g, h => by
    simp only [evLoop] at h
    rw [rounds_succ]
    refine hb s a w _ _ g (fun e s' a' w' h' g' => ?_) h
    cases e with
    | nrm => exact evLoop_sound2 hb hk f s' a' w' g' h'
    | ex id => exact hk _ s' a' w' h' g'
    | ret => exact hk _ s' a' w' h' g'

open Classical in
theorem evC_sound2 (hP : P.follows .mixedOrders = true) (hO : OSound P C.ng O) (ht : ∀ id, n0 ≤ id → θ0 id = none) (e1 : n0 = C.ng) (e2 : C.fl = C.ng) {F : Nat} :
    ∀ (ac : AC) (c : Code) (s : AS) (a : Act) (w : World) (Q : Exit → Act → World → Prop) (k : AE → AS → Option Res),
    okC P C.ng C.N ac c = true → Good2 P C θ0 n0 s a w → (∀ e s' a' w', k e s' = some r → Good2 P C θ0 n0 s' a' w' → Q e.ex' a' w') →
    evC O C.fl F ac s k = some r → c.wp P Q a w
  | .skip, c, s, a, w, Q, k, ok, g, hk, h => by
    cases c <;> simp only [okC] at ok <;> first | (exact Bool.noConfusion ok) | exact wp_skip (hk .nrm s a w h g)
  | .ret, c, s, a, w, Q, k, ok, g, hk, h => by
    cases c <;> simp only [okC] at ok <;> first | (exact Bool.noConfusion ok) | exact wp_ret (hk .ret s a w h g)
  | .exit id, c, s, a, w, Q, k, ok, g, hk, h => by
    cases c <;> simp only [okC] at ok <;> first | (exact Bool.noConfusion ok) | skip
    have e := beq_true.1 ok; subst e
    exact wp_exit (hk (.ex id) s a w h g)
  | .reg d al, c, s, a, w, Q, k, ok, g, hk, h => by
    cases c <;> simp only [okC] at ok <;> first | (exact Bool.noConfusion ok) | skip
    rename_i id ops d'
    simp only [Bool.and_eq_true, Bool.or_eq_true] at ok
    obtain ⟨⟨o1, o2⟩, o3⟩ := ok
    have e : d = d' := by simpa using o1
    subst e
    cases d with
    | false =>
      simp only [evC] at h
      refine wp_region_list ?_
      obtain ⟨se, q1, q2, q3⟩ := evOps_end hO.heir al s g.hb h
      have h' := q3 (fun t => if t = se then some r else none) r (by simp)
      have := evOps_sound (ops := ops.toList) (n0 := n0) (θ0 := θ0) (nf := se.n) (Q := Q) hO (k := fun t => if t = se then some r else none) (fun s' hb h => by
          split at h
          · rename_i z; rw [z]; exact Nat.le_refl _
          · cases h) (fun s' a' w' h g => by
          split at h
          · rename_i z; subst z; exact hk .nrm s' a' w' q1 g.good2
          · cases h) ops.toList al s a w o2 (g.good ht se.n) h'
      simpa using this
    | true =>
      simp only [evC] at h
      obtain ⟨se, q1, q2, q3⟩ := evDraw_end hO.heir al 0 s [] g.hb h
      have h' := q3 (fun t => if t = se then some r else none) r (by simp)
      exact evDraw_sound (n0 := n0) (θ0 := θ0) (nf := se.n) hP hO (k := fun t => if t = se then some r else none) (fun s' hb h => by
          split at h
          · rename_i z; rw [z]; exact Nat.le_refl _
          · cases h) (fun s' a' w' h g => by
          split at h
          · rename_i z; subst z; exact hk .nrm s' a' w' q1 g.good2
          · cases h) o2 (by simpa using o3) (g.good ht se.n) h'
  | .seq x y, c, s, a, w, Q, k, ok, g, hk, h => by
    cases c <;> simp only [okC] at ok <;> first | (exact Bool.noConfusion ok) | skip
    simp only [Bool.and_eq_true] at ok
    simp only [evC] at h
    refine wp_seq (evC_sound2 hP hO ht e1 e2 x _ s a w _ _ ok.1 g (fun e s' a' w' h' g' => ?_) h)
    cases e with
    | nrm => exact evC_sound2 hP hO ht e1 e2 y _ s' a' w' Q k ok.2 g' hk h'
    | ex id => exact hk _ s' a' w' h' g'
    | ret => exact hk _ s' a' w' h' g'
  | .ite x y z, c, s, a, w, Q, k, ok, g, hk, h => by
    cases c <;> simp only [okC] at ok <;> first | (exact Bool.noConfusion ok) | skip
    simp only [Bool.and_eq_true] at ok
    simp only [evC] at h
    obtain ⟨⟨θ, σ, R, hx⟩, hb, hle⟩ := g
    split at h
    · rename_i hv
      have h1 := xn_rel R ok.1.1 hv (fun _ _ => rfl)
      simp only [VRel] at h1
      exact wp_cond_true h1 (evC_sound2 hP hO ht e1 e2 y _ s a w Q k ok.1.2 ⟨⟨θ, σ, R, hx⟩, hb, hle⟩ hk h)
    · rename_i hv
      have h1 := xn_rel R ok.1.1 hv (fun _ _ => rfl)
      simp only [VRel] at h1
      exact wp_cond_false h1 (evC_sound2 hP hO ht e1 e2 z _ s a w Q k ok.2 ⟨⟨θ, σ, R, hx⟩, hb, hle⟩ hk h)
    · cases h
  | .blk id x, c, s, a, w, Q, k, ok, g, hk, h => by
    cases c <;> simp only [okC] at ok <;> first | (exact Bool.noConfusion ok) | skip
    simp only [Bool.and_eq_true] at ok
    have e := beq_true.1 ok.1; subst e
    simp only [evC] at h
    refine wp_block (evC_sound2 hP hO ht e1 e2 x _ s a w _ _ ok.2 g (fun e s' a' w' h' g' => ?_) h)
    cases e with
    | nrm => exact hk _ s' a' w' h' g'
    | ex j =>
      simp only [AE.ex', Exit.inBlock]
      simp only at h'
      cases q : Nat.beq j id with
      | true => rw [q] at h'; rw [if_pos (beq_true.1 q)]; exact hk .nrm s' a' w' h' g'
      | false => rw [q] at h'; rw [if_neg (beq_false.1 q)]; exact hk (.ex j) s' a' w' h' g'
    | ret => exact hk _ s' a' w' h' g'
  | .loop x, c, s, a, w, Q, k, ok, g, hk, h => by
    cases c <;> simp only [okC] at ok <;> first | (exact Bool.noConfusion ok) | skip
    simp only [evC] at h
    refine wp_loop_rounds F (evLoop_sound2 (body := evC O C.fl F x) (fun s a w Q k g hk h => evC_sound2 hP hO ht e1 e2 x _ s a w Q k ok g hk h) hk F s a w g h)
  | .cutg base ts ls x, c, s, a, w, Q, k, ok, g, hk, h => by
    have ok' : (Nat.beq base C.ng && okC P C.ng C.N x c) = true := by cases c <;> exact ok
    simp only [Bool.and_eq_true] at ok'
    have eb := beq_true.1 ok'.1; subst eb
    simp only [evC] at h
    split at h
    · rename_i s' hs
      obtain ⟨⟨θ, σ, R, hx⟩, hb, hle⟩ := g
      obtain ⟨θ', R', p1, p2, p3, p4, p5⟩ := keepG_rep R hs (Nat.le_refl _) (by omega)
      refine evC_sound2 hP hO ht e1 e2 x c s' a w Q k ok'.2 ⟨⟨θ', σ, R', ⟨fun id => ?_, fun b o u e => by rw [p3]; exact hx.fz b o u e⟩⟩, p4, by omega⟩ hk h
      rcases Nat.lt_or_ge id C.ng with q | q
      · rw [p1 id q]
        rcases hx.pl id with z | ⟨_, z, _⟩
        · exact .inl z
        · omega
      · rcases Nat.lt_or_ge id s'.n with z | z
        · exact .inr ⟨ht id (by omega), by omega, z⟩
        · exact .inl (by rw [p2 id z, ht id (by omega)])
    · cases h
  | .cut ts ls x, c, s, a, w, Q, k, ok, g, hk, h => by
    have ok' : okC P C.ng C.N x c = true := by cases c <;> exact ok
    simp only [evC] at h
    split at h
    · rename_i s' hs
      obtain ⟨q1, q2, q3, q4, q5⟩ := keep_same hs
      obtain ⟨⟨θ, σ, R, hx⟩, hb, hle⟩ := g
      refine evC_sound2 hP hO ht e1 e2 x c s' a w Q k ok' ⟨⟨θ, σ, R.weaken (fun t v e => ?_) (fun t v e => ?_) ?_ (fun t s2 off e => ?_), by rw [q2]; exact hx⟩, by rw [q1, q2]; exact hb, by rw [q2]; exact hle⟩ hk h
      · simp only [AS.fs, q3] at e; exact keepT_get e
      · simp only [AS.fs, q4] at e; exact keepL_get e
      · simp only [AS.fs, q1]
      · simp only [AS.fs, q3, q4] at e ⊢
        exact lpOk_get q5 e
    · cases h
end

theorem evFn_sound2 {P : Program} {ng : Nat} {O : Orc} {F g n' : Nat} {fn : Func} {f : AFn} {args : List AV} {h h' : AHeap} {v : AV} (hP : P.follows .mixedOrders = true) (hO : OSound P ng O) (hg : P.funcs[g]? = some fn) (ok : okFn P ng fn f = true)
    (he : evFn O ng F f args h ng = some (v, h', n')) (hb : HB h ng) {θ : Th} {w : World} {cargs : Array Value} (hm : Mem P ng θ h w) (ha : VRels θ args cargs.toList) (ht : ∀ id, ng ≤ id → θ id = none) :
    Calls P g cargs w (fun e w' => HB h' n' ∧ Did P ng h ng ng θ w v (some (h', n')) e w') := by
  simp only [okFn, Bool.and_eq_true] at ok
  obtain ⟨⟨⟨⟨o1, o2⟩, o3⟩, o4⟩, o5⟩ := ok
  split at o5
  · rename_i c hc
    have o2 := beq_true.1 o2
    have o3 := Nat.le_of_ble_eq_true o3
    unfold evFn at he
    cases hq : Nat.beq args.length f.nargs with
    | false => simp [hq] at he
    | true =>
      rw [hq, cond_true] at he
      have hq := beq_true.1 hq
      have hl := ha.length
      simp at hl
      refine calls_of_wp hg hc ?_
      have R0 : Rep P (cx w h ng ng θ f.ntmps) θ (fun _ => none) (AS.fs ⟨argsFr 0 args, [], h, ng⟩) { tmps := cargs ++ Array.replicate (fn.ntmps - cargs.size) undef, defers := [] } w := by
        refine ⟨?_, ⟨?_, rfl, fun t u hu => ?_, fun t s off hu => ?_⟩⟩
        · have := hm.rep ng f.ntmps (fun _ => none)
          exact ⟨this.glob, this.fin, fun s cs e => by simp [AS.fs, lget_nil, lget_cns] at e, fun s s' cs cs' e => by simp [AS.fs, lget_nil, lget_cns] at e, this.hp, fun s cs id x b o c e => by simp [AS.fs, lget_nil, lget_cns] at e, this.dhh, this.ownok, this.bok, this.chg, this.fzc, fun s cs b o u e => by simp [AS.fs, lget_nil, lget_cns] at e, this.fzh, this.fzn⟩
        · simp [cx, o2]; omega
        · obtain ⟨h1, h2⟩ := argsFr_get 0 args t u hu
          simp at h2
          obtain ⟨y, hy, hr⟩ := ha.get h2
          have hlt : t < cargs.size := by
            have := (List.getElem?_eq_some_iff.1 hy).1; simpa using this
          refine TRel.of ?_
          have : (cargs ++ Array.replicate (fn.ntmps - cargs.size) undef).getD t undef = y := by
            simp only [Array.getD_eq_getD_getElem?, Array.getElem?_append_left hlt]
            simp at hy
            rw [hy]; rfl
          rw [this]; exact hr
        · obtain ⟨h1, h2⟩ := argsFr_get 0 args t _ hu
          simp at h2
          obtain ⟨y, hy, hr⟩ := ha.get h2
          simp [VRel] at hr
      refine evC_sound2 (C := cx w h ng ng θ f.ntmps) (θ0 := θ) (n0 := ng) (r := (v, h', n')) hP hO ht rfl rfl f.body c ⟨argsFr 0 args, [], h, ng⟩ _ w _ _ o5 ⟨⟨θ, fun _ => none, R0, Th.ext_refl _ _ _⟩, hb, Nat.le_refl _⟩ (fun e s' a' w' h1 g' => ?_) he
      have h2 : outOf f.res s' = some (v, h', n') := by
        cases e <;> first | exact h1 | cases h1
      obtain ⟨⟨θ', σ', R', hx⟩, hb', hle⟩ := g'
      obtain ⟨u, u1, u2, u3, u4⟩ := results_run R' o4 h2
      have post : a'.defers = [] ∧ ∃ v1, (results fn a'.tmps).run P w' = .ok v1 w' ∧ HB h' n' ∧ Did P ng h ng ng θ w v (some (h', n')) (.returned v1) w' := by
        refine ⟨R'.t.defers, u, u1, by rw [← u3, ← u4]; exact hb', u, rfl, θ', by rw [← u4]; exact hx, u2, ?_⟩
        rw [← u3]
        exact ⟨R'.m.glob, R'.m.fin, fun s cs e => by simp [F0] at e, fun s s' cs cs' e => by simp [F0] at e, R'.m.hp, fun s cs id x b o c e => by simp [F0] at e, R'.m.dhh, R'.m.ownok, R'.m.bok, R'.m.chg, R'.m.fzc, fun s cs b o u e => by simp [F0] at e, R'.m.fzh, R'.m.fzn⟩
      cases e with
      | nrm => exact post
      | ret => exact post
      | ex id => cases h1
  · cases o5
end Go.Proofs.YtogkkamlmklpkaaDoor.Ab
