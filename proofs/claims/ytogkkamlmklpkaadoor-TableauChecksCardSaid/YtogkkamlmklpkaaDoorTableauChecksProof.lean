/- The statement 'TableauChecks' holds, as a tied card: whatever tableau and number are handed in, the Go function phasorlaw14.TableauChecks returns true and leaves memory as it was; the table math/bits.deBruijn64tab is tied to the program's text. -/
import Derived.Test.YtogkkamlmklpkaaDoorQ
import Derived.Test.YtogkkamlmklpkaaDoorPn
import Derived.Test.YtogkkamlmklpkaaDoorN1
import Derived.Test.YtogkkamlmklpkaaDoorCards
import Derived.Test.YtogkkamlmklpkaaDoorTie
import Derived.SevenTiedAt
set_option linter.unusedVariables false
set_option linter.unusedSimpArgs false
set_option maxRecDepth 100000
namespace Go.Proofs.YtogkkamlmklpkaaDoor.tableauChecks
open Go Go.RowKit Go.ChangeShapes Go.WideShapes Go.Deep Go.Joins Go.Proofs.YtogkkamlmklpkaaDoor.Ab

/-- The oracle is sound: the example's own word holds in every memory that holds the table. -/
theorem O3_sound (f0 d : Nat) : OSound Tryd.prog 2 (O3 f0 d) := fun g args h n fl v r he => by
  by_cases hg : g = 16
  · subst hg
    unfold O3 at he
    rw [if_pos rfl] at he
    split at he
    · rename_i hc
      obtain ⟨rfl, hT⟩ := hc
      simp only [Option.some.injEq, Prod.mk.injEq] at he
      obtain ⟨rfl, rfl⟩ := he
      obtain ⟨r', hr⟩ := isT_of alive_true
      obtain ⟨q1, q2⟩ := ev_sound 200 12 _ _ _ _ _ _ _ hr
      refine ⟨q1, fun _ => ⟨trivial, fun θ w cargs hm ha _ => ?_⟩⟩
      have hone : ∀ id x, hget [(0, tab64)] id = some x → id = 0 ∧ x = tab64 := fun id x e => by
        rw [hget_cons] at e
        split at e
        · rename_i e1; cases e; exact ⟨e1.symm, rfl⟩
        · cases e
      obtain ⟨_, q3⟩ := q2 (fun id x e => by obtain ⟨rfl, _⟩ := hone id x e; decide)
      let θ' : Th := fun id => if id < 2 then θ id else none
      have hle : Th.le θ' θ := fun id t e => by
        simp only [θ'] at e
        split at e
        · exact e
        · cases e
      have hG : θ' 0 = some (0, 0, 0) := by
        simp only [θ']; rw [if_pos (by decide)]; exact hm.glob _ (by decide)
      have hm' : Mem Tryd.prog 2 θ' [(0, tab64)] w := by
        refine ⟨fun g hg => by simp only [θ']; rw [if_pos hg]; exact hm.glob g hg, ⟨2, fun id hid => by simp only [θ']; rw [if_neg (by omega)]⟩, ?_, ?_⟩
        · intro id x e
          obtain ⟨rfl, rfl⟩ := hone id x e
          obtain ⟨b, o, c, e1, e2, e3⟩ := hm.hp _ _ hT
          rw [hm.glob _ (by decide)] at e1
          cases e1
          refine ⟨_, _, _, hG, e2, ?_⟩
          unfold BRel at e3 ⊢
          rw [if_neg (by simp [tab64])] at e3 ⊢
          intro i v hv
          obtain ⟨u, hu, hr⟩ := e3 i v hv
          refine ⟨u, hu, ?_⟩
          rw [tab64_eq, List.getElem?_map] at hv
          obtain ⟨z, _, rfl⟩ := Option.map_eq_some_iff.1 hv
          simp only [VRel] at hr ⊢
          exact hr
        · intro id id' x x' b o c o' c' e1 e2
          obtain ⟨_, rfl⟩ := hone id x e1
          cases e2
      refine (q3 θ' w cargs hm' (by simp only [VRels] at ha ⊢; exact ha) ?_).mono fun e W' hd => ?_
      · cases r' with
        | none => trivial
        | some p => exact fun id h1 _ => by simp only [θ']; rw [if_neg (by omega)]
      · obtain ⟨u, rfl, hd⟩ := hd
        cases r' with
        | none => exact ⟨u, rfl, by simp only [VRel] at hd ⊢; exact hd.1, hd.2⟩
        | some p =>
          obtain ⟨θ2, h1, h2, h3⟩ := hd
          refine ⟨u, rfl, by simp only [VRel] at h2 ⊢; exact h2, h3.chg.mono ?_⟩
          intro b _ hm0
          obtain ⟨id, x, o, c, e1, e2, _⟩ := hm0
          obtain ⟨_, rfl⟩ := hone id x e1
          cases e2
    · cases he
  · rw [O3_of hg] at he
    exact ev_sound (f0 + 1) d g args h n fl v r he

/-- The law's evaluation, whatever the tableau and the number are. -/
theorem law_true (n fl : Nat) (h : AHeap) (t : Tb) (v : TV) (N : Int) (ht : t.at v h) (ho : v.old n) (hT : hget h 0 = some tab64) (hG : 0 < n) :
    ∃ h' n', evO (O3 199 (0 + 4)) fs (199 + 1) 3 [t.av v, .i .i64 N] h n fl = some (.b true, some (h', n')) := by
  have hR := right_chk t 199 (by omega)
  by_cases hN : N < 0 ∨ 64 < N
  · have q1 := e11x 199 3 n n h N hN
    have q2 := e12x 199 3 n n (hup h h n) N hN
    exact law_at 199 0 n fl h t v N (by omega) (by omega) ht ho hT hG hR 2 ⟨0, [], []⟩ ⟨none, .ex 0, none, .ex 0⟩ ⟨none, .ex 0, none, .ex 0⟩ h (hup h h n) n n (Nat.le_refl _) (Nat.le_refl _) (by simp [Tb.small]) q1 q2 ⟨rfl, rfl⟩ ⟨rfl, rfl⟩
  · obtain ⟨k, rfl⟩ : ∃ k : Nat, N = (k : Int) := ⟨N.toNat, by omega⟩
    obtain ⟨h1, n1, sa, da, m1, o1, o2, k1, q1⟩ := e11 199 3 n n h k (by omega) (Nat.le_refl _) (by omega)
    obtain ⟨h2, n2, sb, db, m2, o3, o4, k2, q2⟩ := e12 199 2 n1 n1 (hup h h1 n) k (by omega) (Nat.le_refl _) (by omega)
    rw [slOf_eq _ _ o1.nil, slOf_eq _ _ o2.nil] at q1
    rw [slOf_eq _ _ o3.nil, slOf_eq _ _ o4.nil] at q2
    have old1 := old_of o1 o2
    have a0 : (newT k).at (tvOf sa da) (hup h h1 n) := ⟨o1.up.rows, o2.up.rows⟩
    have a1 : (newT k).at (tvOf sa da) (hup (hup h h1 n) h2 n1) := a0.same (n := n1) (fun id hid => hup_old hid) old1
    have a2 : (newT k).at (tvOf sb db) (hup (hup h h1 n) h2 n1) := ⟨o3.up.rows, o4.up.rows⟩
    exact law_at 199 0 n fl h t v k (by omega) (by omega) ht ho hT hG hR 0 (newT k) (tvOf sa da) (tvOf sb db) h1 h2 n1 n2 m1 m2 (newT_small k 199 (by omega) (by omega)) q1 q2 a1 a2

theorem calls_of' {O : Orc} (hO : OSound Tryd.prog 2 O) {g n : Nat} {args : List AV} {h : AHeap} {r : Option (AHeap × Nat)} {θ : Th} {W : World} {cargs : Array Value} (hev : O g args h n n = some (.b true, r)) (hown : ∀ id x, hget h id = some x → x.own = false)
    (hm : Mem Tryd.prog 2 θ h W) (hv : VRels θ args cargs.toList) (hb : HB h n) (hfree : ∀ id, n ≤ id → θ id = none) :
    Calls Tryd.prog g cargs W fun e W' => e = .returned (.bool true) ∧ Chg (fun _ => False) W W' := by
  obtain ⟨_, hs⟩ := hO g args h n n _ _ hev
  obtain ⟨_, hc⟩ := hs hb
  refine (hc θ W cargs hm hv ?_).mono fun e W' hd => ?_
  · cases r with
    | none => trivial
    | some p => exact fun id h1 _ => hfree id h1
  · obtain ⟨u, rfl, hd⟩ := hd
    cases r with
    | none =>
      obtain ⟨h1, h2⟩ := hd
      simp only [VRel] at h1
      exact ⟨by rw [h1], h2⟩
    | some p =>
      obtain ⟨θ', h1, h2, h3⟩ := hd
      simp only [VRel] at h2
      refine ⟨by rw [h2], h3.chg.mono ?_⟩
      intro b _ hm
      obtain ⟨id, x, o, c, e1, e2, _⟩ := hm
      rw [hown id x e1] at e2; cases e2

/-- A slice that came in, as the abstract machine has it. -/
theorem sl_abs {W : World} {c : Value} {l : List Pl} (h : SlIn W c l) (id : Nat) : ∃ (s : Option (Nat × Nat)) (cap : ACap) (pl : Option (Nat × Nat × Nat)) (hb : AHeap),
    (∀ p, s = some p → p.1 = id) ∧ (∀ θ : Th, θ id = pl → VRel θ (.sl s l.length cap) c) ∧
    (∀ id' x, hget hb id' = some x → id' = id ∧ x.own = false ∧ ∀ θ : Th, θ id = pl → ∃ b o q, θ id = some (b, o, q) ∧ b < W.heap.size ∧ BRel Tryd.prog θ x b o q W) ∧
    (∀ h : AHeap, (∀ x, hget hb id = some x → hget h id = some x) → Ab.Rows h s l) := by
  rcases h with ⟨rfl, rfl⟩ | ⟨b, o, cap, rfl, h1, h2, h3⟩
  · exact ⟨none, .ex 0, none, [], (fun p e => by cases e), (fun θ _ => by simp [VRel]), (fun id' x e => by cases e), (fun h _ => rfl)⟩
  · refine ⟨some (id, 0), .unk, some (b, o, 0), [(id, ⟨false, false, 39, cellsOf l⟩)], (fun p e => by cases e; rfl), fun θ e => ?_, fun id' x e => ?_, fun h k => ?_⟩
    · simp only [VRel]; exact ⟨b, o, 0, cap, e, rfl, h1, trivial⟩
    · rw [hget_cons] at e
      split at e
      · rename_i e1
        cases e
        refine ⟨e1.symm, rfl, fun θ e2 => ⟨b, o, 0, e2, h2, ?_⟩⟩
        unfold BRel
        rw [if_neg (by simp)]
        intro i v hv
        obtain ⟨u, hu, hr⟩ := h3 i v hv
        exact ⟨u, hu, hr θ⟩
      · cases e
    · have hk := k ⟨false, false, 39, cellsOf l⟩ (by rw [hget_cons, if_pos rfl])
      exact ⟨_, hk, fun i p hp => by simpa using apart_cells l i p hp []⟩

theorem vr_nil (θ : Th) : VRels θ [] [] := by unfold VRels; rfl
theorem vr_cons {θ : Th} {a : AV} {v : Value} {xs : List AV} {vs : List Value} (h1 : VRel θ a v) (h2 : VRels θ xs vs) : VRels θ (a :: xs) (v :: vs) := by
  unfold VRels
  exact ⟨_, _, rfl, h1, h2⟩
theorem vr_agg {θ : Th} {xs : List AV} {vs : Array Value} (h : VRels θ xs vs.toList) : VRel θ (.agg xs) (.agg vs) := by
  unfold VRel
  exact ⟨_, rfl, h⟩
theorem vr_int (θ : Th) (k : IntKind) (n : Int) : VRel θ (.i k n) (.int k n) := by unfold VRel; rfl

theorem walk (N m : Int) (S D : List Pl) (c1 c2 : Value) (W : World) (hL : laidMetH Tryd.prog theLaid W) (h1 : SlIn W c1 S) (h2 : SlIn W c2 D) :
    Calls Tryd.prog 3 #[.agg #[.int .i64 N, c1, c2], .int .i64 m] W fun e W' => e = .returned (.bool true) ∧ Chg (fun _ => False) W W' := by
  obtain ⟨s1, k1, p1, b1, A1, B1, C1, D1⟩ := sl_abs h1 2
  obtain ⟨s2, k2, p2, b2, A2, B2, C2, D2⟩ := sl_abs h2 (2 + 1)
  let θ : Th := fun id => if id < 2 then some (id, 0, 0) else if id = 2 then p1 else if id = 2 + 1 then p2 else none
  have t1 : θ 2 = p1 := by simp [θ]
  have t2 : θ (2 + 1) = p2 := by simp [θ]
  have tg : θ 0 = some (0, 0, 0) := by simp [θ]
  let h : AHeap := (0, tab64) :: (b1 ++ b2)
  have hh : ∀ id x, hget h id = some x → (id = 0 ∧ x = tab64) ∨ hget b1 id = some x ∨ hget b2 id = some x := fun id x e => by
    simp only [h] at e
    rw [hget_cons] at e
    split at e
    · rename_i e1; cases e; exact .inl ⟨e1.symm, rfl⟩
    · rw [hget_append] at e
      cases e3 : hget b1 id with
      | none => rw [e3] at e; exact .inr (.inr (by simpa using e))
      | some y => rw [e3] at e; exact .inr (.inl (by simpa using e))
  have hT : hget h 0 = some tab64 := by simp only [h]; rw [hget_cons, if_pos rfl]
  have r1 : Ab.Rows h s1 S := D1 h fun x e => by
    simp only [h]
    rw [hget_cons, if_neg (by decide), hget_append, e]; rfl
  have r2 : Ab.Rows h s2 D := D2 h fun x e => by
    simp only [h]
    rw [hget_cons, if_neg (by decide), hget_append]
    cases e3 : hget b1 (2 + 1) with
    | none => rw [e]; rfl
    | some y => exact absurd (C1 _ _ e3).1 (by decide)
  have hob : ∀ id x, hget h id = some x → id < 2 + 2 ∧ x.own = false ∧ ∃ b o q, θ id = some (b, o, q) ∧ b < W.heap.size ∧ BRel Tryd.prog θ x b o q W := fun id x e => by
    rcases hh id x e with ⟨rfl, rfl⟩ | e | e
    · exact ⟨by decide, rfl, tab_rel tg hL⟩
    · obtain ⟨rfl, q2, q3⟩ := C1 _ _ e
      exact ⟨by decide, q2, q3 θ t1⟩
    · obtain ⟨rfl, q2, q3⟩ := C2 _ _ e
      exact ⟨by decide, q2, q3 θ t2⟩
  obtain ⟨h', n', hev⟩ := law_true (2 + 2) (2 + 2) h ⟨N, S, D⟩ ⟨s1, k1, s2, k2⟩ m ⟨r1, r2⟩ ⟨(fun p e => by rw [A1 p e]; decide), (fun p e => by rw [A2 p e]; decide)⟩ hT (by decide)
  refine calls_of' (θ := θ) (OSound.evO (by kernel_rfl) (O3_sound 199 (0 + 4)) fs_ok) hev (fun id x e => (hob id x e).2.1) ⟨(fun g hg => by simp [θ, hg]), ⟨2 + 2, fun id hid => ?_⟩, fun id x e => (hob id x e).2.2, fun id id' x x' b o c o' c' e1 e2 => ?_⟩ ?_ (fun id x e => (hob id x e).1) (fun id hid => ?_)
  · simp only [θ]; rw [if_neg (by omega), if_neg (by omega), if_neg (by omega)]
  · rw [(hob id x e1).2.1] at e2; cases e2
  · exact vr_cons (vr_agg (vr_cons (vr_int θ _ N) (vr_cons (B1 θ t1) (vr_cons (B2 θ t2) (vr_nil θ))))) (vr_cons (vr_int θ _ m) (vr_nil θ))
  · simp only [θ]; rw [if_neg (by omega), if_neg (by omega), if_neg (by omega)]

theorem tstruct : ∃ f0 f1 f2 : Field, Tryd.prog.underlying 24 = some (.struct #[f0, f1, f2]) ∧ oneCellFields Tryd.prog #[f0, f1, f2] = true ∧ Tryd.prog.cellsOf 24 = 3 ∧ f0.type = 3 ∧ f1.type = 22 ∧ f2.type = 22 :=
  ⟨_, _, _, Tryd.underlying24, by kernel_rfl, by kernel_rfl, rfl, rfl, rfl⟩
theorem tcells : Tryd.prog.cellTypes Tryd.prog.depth 24 = some [3, 22, 22] := by kernel_rfl
theorem tab_read {H : Type} {enc : TypeId × Value → H} {W : World} {base : Nat} {v : Value} {d : DataW H} {p : List MemPlace} (hval : Value.okWide Tryd.prog W .any base 24 v) (h : DataW.Trod enc Tryd.prog W 0 (fun _ => true) true 24 v d p) :
    ∃ N c1 c2 S D, v = .agg #[.int .i64 N, c1, c2] ∧ SlIn W c1 S ∧ SlIn W c2 D := by
  obtain ⟨f0, f1, f2, q1, q2, q3, q4, q5, q6⟩ := tstruct
  have hv := hval
  obtain ⟨v0, v1, v2, y0, y1, y2, n, rfl, rfl, rfl, t0, t1, t2⟩ := open_agg3 q1 q2 q3 hval h
  rw [q4] at t0
  rw [q5] at t1
  rw [q6] at t2
  obtain ⟨N, e0, _, _⟩ := DataW.trod_int Tryd.underlying3 t0
  simp only [List.cons.injEq, and_true] at e0
  subst e0
  simp only [Value.okWide, q1] at hv
  obtain ⟨cs, e, _, ts, e2, _, hall⟩ := hv
  rw [tcells] at e2
  cases e2
  cases e
  obtain ⟨u1, g1, o1⟩ := hall 1 v1 rfl
  obtain ⟨u2, g2, o2⟩ := hall 2 v2 rfl
  cases g1
  cases g2
  obtain ⟨S, hS⟩ := sl_read o1 t1
  obtain ⟨D, hD⟩ := sl_read o2 t2
  exact ⟨N, v1, v2, S, D, rfl, hS, hD⟩

theorem lifted (os : Os) (started : os.Started) (H : Type) (enc : TypeId × Value → H) :
    ReturnsInHanded {} Tryd.checked os 3 .any (fun w args => (Rows.tableauChecksSpec.pre enc Tryd.prog Tryd.f3 [] false w args ∧ laidMetH Tryd.prog theLaid w) ∧ sizedMet enc Tryd.prog Tryd.f3 (OpenSpec.ofChange Rows.tableauChecksSpec) false w args)
      (Rows.tableauChecksSpec.post enc Tryd.prog Tryd.f3 false true false false) := by
  refine returnsInHanded_of_change_and (C := Tryd.checked) (X := fun w _ => laidMetH Tryd.prog theLaid w) (fun _ _ _ hh h => h.of_heap hh) own started (by kernel_rfl) Tryd.func3
    (ChangeSpec.witness_shaped (enc := enc) (C := Tryd.checked) (os := os) (X := fun w _ => laidMetH Tryd.prog theLaid w) false (World.doorLaid Tryd.prog 400 os) #[.agg #[.int .i64 0, .slice none 0 0, .slice none 0 0], .int .i64 0] 8 rfl (World.shaped_of_RefB (by kernel_rfl) (by kernel_rfl)) (by kernel_rfl) (by kernel_rfl) (by kernel_rfl) (door_met os _)) ?_
  intro W base args ds gs before hval0 hW _ _ hL _
  have hval : ∀ (j : Nat) t v, Tryd.f3.params[j]? = some t → args[j]? = some v → Value.okWide Tryd.prog W .any base t v := hval0
  have hW' := hW
  obtain ⟨p, q, hA0, hV, rfl, hfz, hnd⟩ := hW
  have hA : DataW.TrodAll enc Tryd.prog W 0 (fun _ => true) true Tryd.f3.params.toList args.toList ds p := hA0
  rw [Tryd.params3] at hA hval
  obtain ⟨v0, v1, d0, d1, p0, p1, rfl, rfl, rfl, h0, h1⟩ := trodAll_two hA
  obtain ⟨rfl, rfl⟩ := trodVars_none hV
  obtain ⟨N, c1, c2, S, D, rfl, hS, hD⟩ := tab_read (hval 0 _ _ rfl rfl) h0
  obtain ⟨m, rfl, rfl, rfl, _⟩ := open_int Tryd.underlying3 (hval 1 _ _ rfl rfl) h1
  refine (walk N m S D c1 c2 W hL hS hD).mono fun e W' ⟨he, hc⟩ => ?_
  subst he
  exact ⟨_, rfl, post_true (t := 4) laidOutP (by kernel_rfl) (by kernel_rfl) Tryd.underlying4 rfl rfl hW' hc⟩

theorem facts : joinedFacts Tryd.pinned.checked.prog 3 Tryd.f3 Rows.tableauChecksSpec Rows.tableauChecksRow = true := by kernel_rfl
theorem nm : Tryd.pinned.checked.prog.funcNamed Rows.tableauChecksRow.func = some 3 := by kernel_rfl
theorem holds : Rows.TableauChecksSaid :=
  OpenClaim.holds_of_wide 3 Tryd.f3 rfl rfl rfl rfl rfl rfl rfl ⟨rfl, rfl, rfl, rfl, rfl⟩ rfl rfl rfl rfl rfl nm Tryd.func3 facts
    (of_decide_eq_true (by kernel_rfl)) (by unfold Func.isWrapper; rw [if_neg (by decide +kernel)]; exact ⟨rfl, rfl⟩)
    (fun os started H enc _ => lifted os started H enc)

theorem wf : Rows.tableauChecksRow.wfByText (OpenSpec.ofChange Rows.tableauChecksSpec) = true := by kernel_rfl
theorem mainIs : Tryd.pinned.checked.prog.mainIs = some (true, "87407f31f697ee641de07323422a65e494f6bbeb9e2307b60245f240e9e7441b".toList) := by kernel_rfl
theorem looks : false = Tryd.pinned.checked.prog.looks [] := by kernel_rfl
theorem goes : false = Rows.tableauChecksRow.goesBy Tryd.pinned.checked.prog := by kernel_rfl
theorem wants : ([24, 3].all fun u => !Tryd.pinned.checked.prog.wantsStandIn u) = true := by kernel_rfl
theorem wants_at (f : FuncId) (fn : Func) (hf : Tryd.pinned.checked.prog.funcNamed Rows.tableauChecksRow.func = some f) (hfn : Tryd.pinned.checked.prog.funcs[f]? = some fn) :
    false = Tryd.pinned.checked.prog.looks [] ∧ ∀ (j : Nat) t, fn.params[j]? = some t → Tryd.pinned.checked.prog.wantsStandIn t = false := by
  obtain rfl : f = 3 := (Option.some.inj (nm.symm.trans hf)).symm
  obtain rfl : fn = Tryd.f3 := (Option.some.inj (Tryd.func3.symm.trans hfn)).symm
  refine ⟨looks, fun j t ht => ?_⟩
  rw [Tryd.params3] at ht
  have hm : t ∈ [24, 3] := by simpa using Array.mem_of_getElem? ht
  have := List.all_eq_true.1 wants t hm
  simpa using this

/-- ████ THE STATEMENT ████ -/
theorem proved : Rows.TableauChecksCardSaid := by
  unfold Rows.TableauChecksCardSaid Rows.tableauChecksCard
  exact Claim7.holds_tied_plain_at .later [] [.data] true (true, "87407f31f697ee641de07323422a65e494f6bbeb9e2307b60245f240e9e7441b") false holds (fun _ h => by cases h) wf (fun _ h => by cases h) tableauChecks_row_tie rfl ⟨rfl, rfl⟩ mainIs rfl wants_at goes
#print axioms proved
end Go.Proofs.YtogkkamlmklpkaaDoor.tableauChecks
