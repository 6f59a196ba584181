/- Code, functions, and functions that call functions: what is evaluated is what the program does. No condition: definitions and lemmas only. -/
import Derived.Test.YtogkkamlmklpkaaDoorA14
import Derived.LoopN
import Derived.Laws.Sem
set_option linter.unusedVariables false
set_option linter.unusedSimpArgs false
namespace Go.Proofs.YtogkkamlmklpkaaDoor.Ab
open Go

def okC (P : Program) (ng N : Nat) : AC → Code → Bool
  | .skip, .skip => true
  | .ret, .ret => true
  | .reg d al, .region _ ops d' => (d == d') && okOps P ng N ops.toList ops.toList al && (!d || okDraw ops.toList al)
  | .seq a b, .seq x y => okC P ng N a x && okC P ng N b y
  | .ite c a b, .cond c' x y => okX ng c' c && okC P ng N a x && okC P ng N b y
  | .blk id a, .block id' x => Nat.beq id id' && okC P ng N a x
  | .loop a, .loop x => okC P ng N a x
  | .exit id, .exit id' => Nat.beq id id'
  | .cut _ _ a, x => okC P ng N a x
  | .cutg base _ _ a, x => Nat.beq base ng && okC P ng N a x
  | _, _ => false

theorem keepT_get {fr : List (Nat × AV)} {t : Nat} {v : AV} : ∀ {ts : List Nat}, fget (keepT fr ts) t = some v → fget fr t = some v
  | [], h => by simp [keepT, fget_nil, fget_cns] at h
  | x :: ts, h => by
    simp only [keepT] at h
    split at h
    · rename_i u hu
      rw [fget_cons] at h
      by_cases e : x = t
      · rw [if_pos e] at h; rw [← e, hu]; exact h
      · rw [if_neg e] at h; exact keepT_get h
    · exact keepT_get h
theorem keepL_get {fr : List (Nat × List AV)} {t : Nat} {v : List AV} : ∀ {ts : List Nat}, lget (keepL fr ts) t = some v → lget fr t = some v
  | [], h => by simp [keepL, lget_nil, lget_cns] at h
  | x :: ts, h => by
    simp only [keepL] at h
    split at h
    · rename_i u hu
      rw [lget_cons] at h
      by_cases e : x = t
      · rw [if_pos e] at h; rw [← e, hu]; exact h
      · rw [if_neg e] at h; exact keepL_get h
    · exact keepL_get h
theorem lpOk_get {loc : List (Nat × List AV)} {t s off : Nat} : ∀ {fr : List (Nat × AV)}, lpOk loc fr = true → fget fr t = some (.lp s off) → (lget loc s).isSome = true
  | [], _, h => by simp [fget_nil, fget_cns] at h
  | (k, v) :: fr, ok, h => by
    rw [fget_cons] at h
    by_cases e : k = t
    · rw [if_pos e] at h; cases h
      simp only [lpOk, Bool.and_eq_true] at ok; exact ok.1
    · rw [if_neg e] at h
      refine lpOk_get ?_ h
      cases v <;> simp only [lpOk, Bool.and_eq_true] at ok <;> first | exact ok | exact ok.2

theorem Rep.weaken {P : Program} {C : Cx} {θ : Th} {σ : Nat → Option Nat} {F F' : FS} {a : Act} {w : World} (R : Rep P C θ σ F a w) (ht : ∀ t v, F'.tmp t = some v → F.tmp t = some v) (hl : ∀ s v, F'.loc s = some v → F.loc s = some v)
    (hh : F'.hp = F.hp) (hlp : ∀ t s off, F'.tmp t = some (.lp s off) → (F'.loc s).isSome = true) : Rep P C θ σ F' a w :=
  ⟨⟨R.m.glob, R.m.fin, fun s cs h => R.m.loc s cs (hl s cs h), fun s s' c1 c2 h h' => R.m.dll s s' c1 c2 (hl _ _ h) (hl _ _ h'), fun id x h => R.m.hp id x (hh ▸ h), fun s c1 id x b o c h h' => R.m.dlh s c1 id x b o c (hl _ _ h) (hh ▸ h'),
    fun id id' x x' b o c o' c' h hx h' => R.m.dhh id id' x x' b o c o' c' (hh ▸ h) hx (hh ▸ h'), fun id x b o c h => R.m.ownok id x b o c (hh ▸ h), fun id x b o c h => R.m.bok id x b o c (hh ▸ h), R.m.chg,
    R.m.fzc, fun s cs b o u h => R.m.fzl s cs b o u (hl _ _ h), fun id x b o c o' u h => R.m.fzh id x b o c o' u (hh ▸ h), R.m.fzn⟩,
   ⟨R.t.size, R.t.defers, fun t v h => R.t.tmp t v (ht t v h), hlp⟩⟩

def AE.ex' : AE → Exit
  | .nrm => .normal
  | .ex id => .exit id
  | .ret => .ret

section
variable {P : Program} {C : Cx} {O : Orc} {θ0 : Th} {n0 nf : Nat} {r : Res}

theorem evLoop_sound {c : Code} {Q : Exit → Act → World → Prop} {body : AS → (AE → AS → Option Res) → Option Res}
    (hh : ∀ (s : AS) (k : AE → AS → Option Res), HB s.h s.n → body s k = some r → ∃ e s', k e s' = some r ∧ Heir s.h s.n s'.h s'.n)
    (hb : ∀ (s : AS) (a : Act) (w : World) (Q : Exit → Act → World → Prop) (k : AE → AS → Option Res), Good P C θ0 n0 nf s a w → (∀ e s', HB s'.h s'.n → k e s' = some r → s'.n ≤ nf) →
      (∀ e s' a' w', k e s' = some r → Good P C θ0 n0 nf s' a' w' → Q e.ex' a' w') → body s k = some r → c.wp P Q a w) {k : AE → AS → Option Res}
    (hn : ∀ e s', HB s'.h s'.n → k e s' = some r → s'.n ≤ nf) (hk : ∀ e s' a' w', k e s' = some r → Good P C θ0 n0 nf s' a' w' → Q e.ex' a' w') :
    ∀ (f : Nat) (s : AS) (a : Act) (w : World), Good P C θ0 n0 nf s a w → evLoop body f s k = some r → Code.rounds P c Q f a w
  | 0, s, a, w, _, h => by simp [evLoop] at h
  | f + 1, s, a, w, g, h => by
    simp only [evLoop] at h
    rw [rounds_succ]
    refine hb s a w _ _ g (fun e s' hb' h' => ?_) (fun e s' a' w' h' g' => ?_) h
    · cases e with
      | nrm =>
        obtain ⟨e, s2, q1, q2⟩ := evLoop_heir hh f s' hb' h'
        have := hn e s2 (q2.hb hb') q1
        have := q2.1
        omega
      | ex id => exact hn _ s' hb' h'
      | ret => exact hn _ s' hb' h'
    · cases e with
      | nrm => exact evLoop_sound hh hb hn hk f s' a' w' g' h'
      | ex id => exact hk _ s' a' w' h' g'
      | ret => exact hk _ s' a' w' h' g'

theorem evC_sound (hP : P.follows .mixedOrders = true) (hO : OSound P C.ng O) {F : Nat} : ∀ (ac : AC) (c : Code) (s : AS) (a : Act) (w : World) (Q : Exit → Act → World → Prop) (k : AE → AS → Option Res),
    okC P C.ng C.N ac c = true → ac.nog = true → Good P C θ0 n0 nf s a w → (∀ e s', HB s'.h s'.n → k e s' = some r → s'.n ≤ nf) → (∀ e s' a' w', k e s' = some r → Good P C θ0 n0 nf s' a' w' → Q e.ex' a' w') →
    evC O C.fl F ac s k = some r → c.wp P Q a w
  | .skip, c, s, a, w, Q, k, ok, ng, g, hn, hk, h => by
    cases c <;> simp only [okC] at ok <;> first | (exact Bool.noConfusion ok) | exact wp_skip (hk .nrm s a w h g)
  | .ret, c, s, a, w, Q, k, ok, ng, g, hn, hk, h => by
    cases c <;> simp only [okC] at ok <;> first | (exact Bool.noConfusion ok) | exact wp_ret (hk .ret s a w h g)
  | .exit id, c, s, a, w, Q, k, ok, ng, g, hn, hk, h => by
    cases c <;> simp only [okC] at ok <;> first | (exact Bool.noConfusion ok) | skip
    have e := beq_true.1 ok; subst e
    exact wp_exit (hk (.ex id) s a w h g)
  | .reg d al, c, s, a, w, Q, k, ok, ng, g, hn, hk, h => by
    cases c <;> simp only [okC] at ok <;> first | (exact Bool.noConfusion ok) | skip
    rename_i id ops d'
    simp only [Bool.and_eq_true, Bool.or_eq_true] at ok
    obtain ⟨⟨o1, o2⟩, o3⟩ := ok
    have e : d = d' := by simpa using o1
    subst e
    cases d with
    | false =>
      simp only [evC] at h
      refine wp_region_list ?_
      have := evOps_sound (ops := ops.toList) hO (fun s' hb h => hn .nrm s' hb h) (fun s' a' w' h g => hk .nrm s' a' w' h g) ops.toList al s a w o2 g h
      simpa using this
    | true =>
      simp only [evC] at h
      exact evDraw_sound hP hO (fun s' hb h => hn .nrm s' hb h) (fun s' a' w' h g => hk .nrm s' a' w' h g) o2 (by simpa using o3) g h
  | .seq x y, c, s, a, w, Q, k, ok, ng, g, hn, hk, h => by
    cases c <;> simp only [okC] at ok <;> first | (exact Bool.noConfusion ok) | skip
    simp only [Bool.and_eq_true] at ok
    simp only [evC] at h
    simp only [AC.nog, Bool.and_eq_true] at ng
    refine wp_seq (evC_sound hP hO x _ s a w _ _ ok.1 ng.1 g (fun e s' hb h' => ?_) (fun e s' a' w' h' g' => ?_) h)
    · cases e with
      | nrm =>
        obtain ⟨e, s2, q1, q2⟩ := evC_heir hO.heir y s' k ng.2 hb h'
        have := hn e s2 (q2.hb hb) q1
        have := q2.1
        omega
      | ex id => exact hn _ s' hb h'
      | ret => exact hn _ s' hb h'
    · cases e with
      | nrm => exact evC_sound hP hO y _ s' a' w' Q k ok.2 ng.2 g' hn hk h'
      | ex id => exact hk _ s' a' w' h' g'
      | ret => exact hk _ s' a' w' h' g'
  | .ite x y z, c, s, a, w, Q, k, ok, ng, g, hn, hk, h => by
    cases c <;> simp only [okC] at ok <;> first | (exact Bool.noConfusion ok) | skip
    simp only [Bool.and_eq_true] at ok
    simp only [evC] at h
    simp only [AC.nog, Bool.and_eq_true] at ng
    obtain ⟨⟨θ, σ, R, hx, hf⟩, hb, hle⟩ := g
    split at h
    · rename_i hv
      have h1 := xn_rel R ok.1.1 hv (fun _ _ => rfl)
      simp only [VRel] at h1
      exact wp_cond_true h1 (evC_sound hP hO y _ s a w Q k ok.1.2 ng.1 ⟨⟨θ, σ, R, hx, hf⟩, hb, hle⟩ hn hk h)
    · rename_i hv
      have h1 := xn_rel R ok.1.1 hv (fun _ _ => rfl)
      simp only [VRel] at h1
      exact wp_cond_false h1 (evC_sound hP hO z _ s a w Q k ok.2 ng.2 ⟨⟨θ, σ, R, hx, hf⟩, hb, hle⟩ hn hk h)
    · cases h
  | .blk id x, c, s, a, w, Q, k, ok, ng, g, hn, hk, h => by
    cases c <;> simp only [okC] at ok <;> first | (exact Bool.noConfusion ok) | skip
    simp only [Bool.and_eq_true] at ok
    have e := beq_true.1 ok.1; subst e
    simp only [evC] at h
    refine wp_block (evC_sound hP hO x _ s a w _ _ ok.2 ng g (fun e s' hb h' => ?_) (fun e s' a' w' h' g' => ?_) h)
    · cases e with
      | nrm => exact hn _ s' hb h'
      | ex j =>
        simp only at h'
        cases q : Nat.beq j id with
        | true => rw [q] at h'; exact hn _ s' hb h'
        | false => rw [q] at h'; exact hn _ s' hb h'
      | ret => exact hn _ s' hb h'
    · cases e with
      | nrm => exact hk _ s' a' w' h' g'
      | ex j =>
        simp only [AE.ex', Exit.inBlock]
        simp only at h'
        cases q : Nat.beq j id with
        | true => rw [q] at h'; rw [if_pos (beq_true.1 q)]; exact hk .nrm s' a' w' h' g'
        | false => rw [q] at h'; rw [if_neg (beq_false.1 q)]; exact hk (.ex j) s' a' w' h' g'
      | ret => exact hk _ s' a' w' h' g'
  | .loop x, c, s, a, w, Q, k, ok, ng, g, hn, hk, h => by
    cases c <;> simp only [okC] at ok <;> first | (exact Bool.noConfusion ok) | skip
    simp only [evC] at h
    refine wp_loop_rounds F (evLoop_sound (body := evC O C.fl F x) (fun s k hb h => evC_heir hO.heir x s k ng hb h) (fun s a w Q k g hn hk h => evC_sound hP hO x _ s a w Q k ok ng g hn hk h) hn hk F s a w g h)
  | .cutg _ _ _ _, c, s, a, w, Q, k, ok, ng, g, hn, hk, h => by simp [AC.nog] at ng
  | .cut ts ls x, c, s, a, w, Q, k, ok, ng, g, hn, hk, h => by
    have ok' : okC P C.ng C.N x c = true := by cases c <;> exact ok
    simp only [evC] at h
    split at h
    · rename_i s' hs
      obtain ⟨q1, q2, q3, q4, q5⟩ := keep_same hs
      obtain ⟨⟨θ, σ, R, hx, hf⟩, hb, hle⟩ := g
      refine evC_sound hP hO x c s' a w Q k ok' ng ⟨⟨θ, σ, R.weaken (fun t v e => ?_) (fun t v e => ?_) ?_ (fun t s2 off e => ?_), by rw [q2]; exact hx, by rw [q2]; exact hf⟩, by rw [q1, q2]; exact hb, by rw [q2]; exact hle⟩ hn hk h
      · simp only [AS.fs, q3] at e; exact keepT_get e
      · simp only [AS.fs, q4] at e; exact keepL_get e
      · simp only [AS.fs, q1]
      · simp only [AS.fs, q3, q4] at e ⊢
        exact lpOk_get q5 e
    · cases h
end

/-! ### Functions -/
def okR (P : Program) (N : Nat) : ResultVar → AR → Bool
  | .tmp t, .t n => Nat.beq t n
  | .cell t ty, .cell n sz => Nat.beq t n && decide (lie P ty = some sz)
  | _, _ => false
def okRs (P : Program) (N : Nat) : List ResultVar → List AR → Bool
  | [], [] => true
  | x :: l, y :: r => okR P N x y && okRs P N l r
  | _, _ => false
def okFn (P : Program) (ng : Nat) (fn : Func) (f : AFn) : Bool :=
  !(fn.name == "runtime.NumGoroutine") && Nat.beq fn.ntmps f.ntmps && Nat.ble f.nargs f.ntmps && okRs P f.ntmps fn.results.toList f.res && (match fn.body with | some c => okC P ng f.ntmps f.body c | none => false)

theorem argsFr_get : ∀ (j : Nat) (args : List AV) (t : Nat) (v : AV), fget (argsFr j args) t = some v → j ≤ t ∧ args[t - j]? = some v
  | _, [], _, _, h => by simp [argsFr, fget_nil, fget_cns] at h
  | j, x :: args, t, v, h => by
    simp only [argsFr] at h
    rw [fget_cons] at h
    by_cases e : j = t
    · rw [if_pos e] at h; subst e; simpa using h
    · rw [if_neg e] at h
      obtain ⟨h1, h2⟩ := argsFr_get (j + 1) args t v h
      refine ⟨by omega, ?_⟩
      have : t - j = (t - (j + 1)) + 1 := by omega
      rw [this]; simpa using h2

theorem ares_run {P : Program} {C : Cx} {θ : Th} {σ : Nat → Option Nat} {s : AS} {a : Act} {w : World} {N : Nat} {x : ResultVar} {y : AR} {v : AV} (R : Rep P C θ σ s.fs a w) (ok : okR P N x y = true) (h : ares s y = some v) :
    ∃ u, ((match x with
      | .tmp t => pure (a.tmps.getD t undef)
      | .cell p t => do loadVar t (← asAddr (a.tmps.getD p undef)) : Sem Value)).run P w = .ok u w ∧ VRel θ v u := by
  cases x with
  | tmp t =>
    cases y with
    | cell _ _ => simp [okR] at ok
    | t n =>
      simp only [okR] at ok
      have e := beq_true.1 ok; subst e
      simp only [ares] at h
      split at h
      · rename_i u hu
        cases q : u.islp with
        | true => simp [q] at h
        | false =>
          simp [q] at h; subst h
          exact ⟨_, rfl, (R.t.tmp t u hu).val q⟩
      · cases h
  | cell p ty =>
    cases y with
    | t n => simp [okR] at ok
    | cell n sz =>
      simp only [okR, Bool.and_eq_true, decide_eq_true_eq] at ok
      obtain ⟨e, hs⟩ := ok
      have e := beq_true.1 e; subst e
      simp only [ares] at h
      split at h
      · rename_i q off hv
        split at h
        · rename_i cs hl
          obtain ⟨b, hb, hu⟩ := lp_of (R.t.tmp p _ hv)
          obtain ⟨b', arr, ty', g1, g2, g3, g4⟩ := R.m.loc q cs hl
          rw [hb] at g1; cases g1
          obtain ⟨u, hu1, hu2⟩ := loadVar_run (P := P) (w := w) (b := b) (o := 0) hs h (fun i x hx => by
            obtain ⟨u, hu, hr⟩ := g4.get hx
            exact ⟨u, by simp only [World.cell?, g3, Nat.zero_add]; simpa using hu, hr⟩)
          rw [Nat.zero_add] at hu1
          exact ⟨u, by simp [hu, asAddr, hu1], hu2⟩
        · cases h
      · rename_i id off hv
        split at h
        · rename_i x' hl
          have hx := (R.t.tmp p _ hv).val rfl
          simp only [VRel] at hx
          obtain ⟨b, o', c, he, hu⟩ := hx
          obtain ⟨b', o'', c', g1, g0, g2⟩ := R.m.hp id x' hl
          rw [he] at g1; cases g1
          obtain ⟨u, hu1, hu2⟩ := loadVar_run (P := P) (w := w) (b := b) (o := o') hs h (fun i x hx => g2.at P hx)
          exact ⟨u, by simp [hu, asAddr, hu1], hu2⟩
        · cases h
      · cases h

theorem aress_run {P : Program} {C : Cx} {θ : Th} {σ : Nat → Option Nat} {s : AS} {a : Act} {w : World} {N : Nat} (R : Rep P C θ σ s.fs a w) : ∀ (l : List ResultVar) (l' : List AR) (vs : List AV), okRs P N l l' = true → aress s l' = some vs →
    ∃ us : List Value, (l.mapM (fun x => (match x with
      | .tmp t => pure (a.tmps.getD t undef)
      | .cell p t => do loadVar t (← asAddr (a.tmps.getD p undef)) : Sem Value))).run P w = .ok us w ∧ VRels θ vs us
  | [], [], vs, _, h => by
    simp only [aress, Option.some.injEq] at h; subst h
    exact ⟨[], by simp, by simp [VRels]⟩
  | x :: l, y :: l', vs, ok, h => by
    simp only [okRs, Bool.and_eq_true] at ok
    simp only [aress] at h
    split at h
    · rename_i v hv
      split at h
      · rename_i vs' hvs
        simp only [Option.some.injEq] at h; subst h
        obtain ⟨u, u1, u2⟩ := ares_run R ok.1 hv
        obtain ⟨us, g1, g2⟩ := aress_run R l l' vs' ok.2 hvs
        refine ⟨u :: us, ?_, by simp only [VRels]; exact ⟨u, us, rfl, u2, g2⟩⟩
        simp only [List.mapM_cons, Sem.run_bind, u1, Result.andThen_ok, g1, Sem.run_pure]
      · cases h
    · cases h
  | [], _ :: _, _, ok, _ => by simp [okRs] at ok
  | _ :: _, [], _, ok, _ => by simp [okRs] at ok

theorem results_run {P : Program} {C : Cx} {θ : Th} {σ : Nat → Option Nat} {s : AS} {a : Act} {w : World} {N : Nat} {fn : Func} {res : List AR} {v : AV} {h' : AHeap} {n' : Nat} (R : Rep P C θ σ s.fs a w) (ok : okRs P N fn.results.toList res = true)
    (h : outOf res s = some (v, h', n')) : ∃ u, (results fn a.tmps).run P w = .ok u w ∧ VRel θ v u ∧ s.h = h' ∧ s.n = n' := by
  unfold outOf at h
  have main : ∀ vs, aress s res = some vs → ∃ us : List Value, (results fn a.tmps).run P w = .ok (if h : us.toArray.size = 1 then us.toArray[0] else .tuple us.toArray) w ∧ VRels θ vs us := fun vs hvs => by
    obtain ⟨us, g1, g2⟩ := aress_run R fn.results.toList res vs ok hvs
    refine ⟨us, ?_, g2⟩
    unfold results
    rw [Array.mapM_eq_mapM_toList]
    simp only [Sem.run_bind, map_eq_pure_bind]
    erw [g1]
    rfl
  split at h
  · rename_i v0 hv
    simp only [Option.some.injEq, Prod.mk.injEq] at h
    obtain ⟨rfl, rfl, rfl⟩ := h
    obtain ⟨us, g1, g2⟩ := main _ hv
    simp only [VRels] at g2
    obtain ⟨u, us', rfl, g2, rfl⟩ := g2
    exact ⟨u, by simpa using g1, g2, rfl, rfl⟩
  · rename_i vs hne hvs
    simp only [Option.some.injEq, Prod.mk.injEq] at h
    obtain ⟨rfl, rfl, rfl⟩ := h
    obtain ⟨us, g1, g2⟩ := main _ hvs
    have hl := g2.length
    have : ¬ us.toArray.size = 1 := fun e => by
      simp at e
      rw [e] at hl
      match vs, hl with
      | [x], _ => exact hne x rfl
    rw [dif_neg this] at g1
    exact ⟨_, g1, by simp only [VRel]; exact ⟨_, rfl, by simpa using g2⟩, rfl, rfl⟩
  · cases h

theorem evFn_sound {P : Program} {ng : Nat} {O : Orc} {F g fl n n' : Nat} {fn : Func} {f : AFn} {args : List AV} {h h' : AHeap} {v : AV} (hP : P.follows .mixedOrders = true) (hO : OSound P ng O) (hg : P.funcs[g]? = some fn) (ok : okFn P ng fn f = true) (hng : f.body.nog = true)
    (he : evFn O fl F f args h n = some (v, h', n')) (hb : HB h n) {θ : Th} {w : World} {cargs : Array Value} (hm : Mem P ng θ h w) (ha : VRels θ args cargs.toList) (hf : Free θ n n') :
    Calls P g cargs w (Did P ng h n fl θ w v (some (h', n'))) := by
  simp only [okFn, Bool.and_eq_true] at ok
  obtain ⟨⟨⟨⟨o1, o2⟩, o3⟩, o4⟩, o5⟩ := ok
  split at o5
  · rename_i c hc
    have o2 := beq_true.1 o2
    have o3 := Nat.le_of_ble_eq_true o3
    unfold evFn at he
    cases hq : Nat.beq args.length f.nargs with
    | false => simp [hq] at he
    | true =>
      rw [hq, cond_true] at he
      have hq := beq_true.1 hq
      have hl := ha.length
      simp at hl
      refine calls_of_wp hg hc ?_
      have R0 : Rep P (cx w h fl ng θ f.ntmps) θ (fun _ => none) (AS.fs ⟨argsFr 0 args, [], h, n⟩) { tmps := cargs ++ Array.replicate (fn.ntmps - cargs.size) undef, defers := [] } w := by
        refine ⟨?_, ⟨?_, rfl, fun t u hu => ?_, fun t s off hu => ?_⟩⟩
        · have := hm.rep fl f.ntmps (fun _ => none)
          exact ⟨this.glob, this.fin, fun s cs e => by simp [AS.fs, lget_nil, lget_cns] at e, fun s s' cs cs' e => by simp [AS.fs, lget_nil, lget_cns] at e, this.hp, fun s cs id x b o c e => by simp [AS.fs, lget_nil, lget_cns] at e, this.dhh, this.ownok, this.bok, this.chg, this.fzc, fun s cs b o u e => by simp [AS.fs, lget_nil, lget_cns] at e, this.fzh, this.fzn⟩
        · simp [cx, o2]; omega
        · obtain ⟨h1, h2⟩ := argsFr_get 0 args t u hu
          simp at h2
          obtain ⟨y, hy, hr⟩ := ha.get h2
          have hlt : t < cargs.size := by
            have := (List.getElem?_eq_some_iff.1 hy).1; simpa using this
          refine TRel.of ?_
          have : (cargs ++ Array.replicate (fn.ntmps - cargs.size) undef).getD t undef = y := by
            simp only [Array.getD_eq_getD_getElem?, Array.getElem?_append_left hlt]
            simp at hy
            rw [hy]; rfl
          rw [this]; exact hr
        · obtain ⟨h1, h2⟩ := argsFr_get 0 args t _ hu
          simp at h2
          obtain ⟨y, hy, hr⟩ := ha.get h2
          simp [VRel] at hr
      refine evC_sound (C := cx w h fl ng θ f.ntmps) (θ0 := θ) (n0 := n) (nf := n') (r := (v, h', n')) hP hO f.body c ⟨argsFr 0 args, [], h, n⟩ _ w _ _ o5 hng ⟨⟨θ, fun _ => none, R0, Th.ext_refl _ _ _, hf⟩, hb, Nat.le_refl _⟩ (fun e s' hb' h1 => ?_) (fun e s' a' w' h1 g' => ?_) he
      · have : outOf f.res s' = some (v, h', n') := by
          cases e <;> first | exact h1 | cases h1
        unfold outOf at this
        split at this <;> first | (simp only [Option.some.injEq, Prod.mk.injEq] at this; omega) | cases this
      · have h2 : outOf f.res s' = some (v, h', n') := by
          cases e <;> first | exact h1 | cases h1
        obtain ⟨⟨θ', σ', R', hx, hf'⟩, hb', hle⟩ := g'
        obtain ⟨u, u1, u2, u3, u4⟩ := results_run R' o4 h2
        have post : a'.defers = [] ∧ ∃ v1, (results fn a'.tmps).run P w' = .ok v1 w' ∧ Did P ng h n fl θ w v (some (h', n')) (.returned v1) w' := by
          refine ⟨R'.t.defers, u, u1, u, rfl, θ', by rw [← u4]; exact hx, u2, ?_⟩
          rw [← u3]
          exact ⟨R'.m.glob, R'.m.fin, fun s cs e => by simp [F0] at e, fun s s' cs cs' e => by simp [F0] at e, R'.m.hp, fun s cs id x b o c e => by simp [F0] at e, R'.m.dhh, R'.m.ownok, R'.m.bok, R'.m.chg, R'.m.fzc, fun s cs b o u e => by simp [F0] at e, R'.m.fzh, R'.m.fzn⟩
        cases e with
        | nrm => exact post
        | ret => exact post
        | ex id => cases h1
  · cases o5

theorem OSound.evO {P : Program} {ng : Nat} {O : Orc} {fs : Nat → Option AFn} {F : Nat} (hP : P.follows .mixedOrders = true) (hO : OSound P ng O) (hfs : ∀ g f, fs g = some f → f.body.nog = true ∧ ∃ fn, P.funcs[g]? = some fn ∧ okFn P ng fn f = true) :
    OSound P ng (Ab.evO O fs F) := fun g args h n fl v r he => by
  unfold Ab.evO at he
  split at he
  · rename_i f hf
    obtain ⟨hng, fn, hg, ok⟩ := hfs g f hf
    split at he
    · rename_i v1 h1 n1 he1
      simp only [Option.some.injEq, Prod.mk.injEq] at he
      obtain ⟨rfl, rfl⟩ := he
      refine ⟨?_, fun hb => ⟨evFn_heir hO.heir hng hb he1, fun θ w cargs hm ha hf => evFn_sound hP hO hg ok hng he1 hb hm ha hf⟩⟩
      simp only [okFn, Bool.and_eq_true] at ok
      obtain ⟨⟨⟨⟨o1, o2⟩, o3⟩, o4⟩, o5⟩ := ok
      split at o5
      · rename_i c hc
        exact ⟨fn, c, hg, hc, by simpa using o1⟩
      · cases o5
    · cases he
  · exact hO g args h n fl v r he
theorem OSound.evD {P : Program} {ng : Nat} {O : Orc} {fs : Nat → Option AFn} {F : Nat} (hP : P.follows .mixedOrders = true) (hO : OSound P ng O) (hfs : ∀ g f, fs g = some f → f.body.nog = true ∧ ∃ fn, P.funcs[g]? = some fn ∧ okFn P ng fn f = true) :
    ∀ d, OSound P ng (Ab.evD O fs F d)
  | 0 => hO
  | d + 1 => (OSound.evD hP hO hfs d).evO hP hfs
def Orc.no : Orc := fun _ _ _ _ _ => none
theorem OSound.no {P : Program} {ng : Nat} : OSound P ng Orc.no := fun g args h n fl v r he => by cases he

end Go.Proofs.YtogkkamlmklpkaaDoor.Ab
