/- The statement 'StabNobody' holds, as a tied card: whatever number is handed in, the Go function phasorlaw15.StabNobody returns true and leaves memory as it was; the table math/bits.deBruijn64tab is tied to the program's text. -/
import Derived.Test.YtdlkmjkonpijgaaDoorFr
import Derived.Test.YtdlkmjkonpijgaaDoorN1
import Derived.Test.YtdlkmjkonpijgaaDoorCards
import Derived.Test.YtdlkmjkonpijgaaDoorTie
import Derived.SevenTiedAt
set_option linter.unusedVariables false
set_option maxRecDepth 100000
namespace Go.Proofs.YtdlkmjkonpijgaaDoor.stabNobody
open Go Go.RowKit Go.ChangeShapes Go.WideShapes Go.Proofs.YtdlkmjkonpijgaaDoor.Ab

theorem open_float {H : Type} {enc : TypeId × Value → H} {P : Program} {w : World} {base : Nat} {spare : Nat → Bool} {held : Bool} {r : Reach} {b0 : Nat} {t : TypeId} {k : FloatKind} {v : Value} {d : DataW H} {ps : List MemPlace}
    (ht : P.underlying t = some (.float k)) (hval : Value.okWide P w r b0 t v) (hd : DataW.Trod enc P w base spare held t v d ps) : ∃ n, v = .float k n := by
  simp only [Value.okWide, ht, Cell.okWide] at hval
  cases v <;> simp_all [Cell.ok]

theorem walk (u : Nat) (W : World) (h : laidMetH Tryd.prog theLaid W) : Calls Tryd.prog 3 #[.float .f64 u] W fun e W' => e = .returned (.bool true) ∧ Chg (fun _ => False) W W' := by
  obtain ⟨r, hr⟩ := isT_of (nob u)
  refine calls_of (θ := th0) hr ?_ ⟨?_, ⟨3, ?_⟩, ?_, ?_⟩ ?_ ?_ ?_
  · intro id x e
    rw [hget_cons] at e
    split at e
    · cases e; rfl
    · cases e
  · intro g hg; simp [th0, hg]
  · intro id hid; simp [th0]; omega
  · intro id x e
    rw [hget_cons] at e
    split at e
    · rename_i e1
      subst e1
      cases e
      exact tab_rel rfl h
    · cases e
  · intro id id' x x' b o c o' c' e1 e2
    rw [hget_cons] at e1
    split at e1
    · cases e1; cases e2
    · cases e1
  · simp only [VRels, VRel]
    exact ⟨_, _, rfl, ⟨u, rfl, .inl rfl⟩, rfl⟩
  · intro id x e
    rw [hget_cons] at e
    split at e
    · omega
    · cases e
  · intro id hid; simp [th0]; omega

theorem lifted (os : Os) (started : os.Started) (H : Type) (enc : TypeId × Value → H) :
    ReturnsInHanded {} Tryd.checked os 3 .any (fun w args => (Rows.stabNobodySpec.pre enc Tryd.prog Tryd.f3 [] false w args ∧ laidMetH Tryd.prog theLaid w) ∧ sizedMet enc Tryd.prog Tryd.f3 (OpenSpec.ofChange Rows.stabNobodySpec) false w args)
      (Rows.stabNobodySpec.post enc Tryd.prog Tryd.f3 false true false false) := by
  refine returnsInHanded_of_change_and (C := Tryd.checked) (X := fun w _ => laidMetH Tryd.prog theLaid w) (fun _ _ _ hh h => h.of_heap hh) own started (by kernel_rfl) Tryd.func3
    (ChangeSpec.witness_shaped (enc := enc) (C := Tryd.checked) (os := os) (X := fun w _ => laidMetH Tryd.prog theLaid w) false (World.doorLaid Tryd.prog 400 os) #[.float .f64 0] 8 rfl (World.shaped_of_RefB (by kernel_rfl) (by kernel_rfl)) (by kernel_rfl) (by kernel_rfl) (by kernel_rfl) (door_met os _)) ?_
  intro W base args ds gs before hval0 hW _ _ hL _
  have hval : ∀ (j : Nat) t v, Tryd.f3.params[j]? = some t → args[j]? = some v → Value.okWide Tryd.prog W .any base t v := hval0
  have hW' := hW
  obtain ⟨p, q, hA0, hV, rfl, hfz, hnd⟩ := hW
  have hA : DataW.TrodAll enc Tryd.prog W 0 (fun _ => true) true Tryd.f3.params.toList args.toList ds p := hA0
  rw [Tryd.params3] at hA hval
  obtain ⟨v0, d0, rfl, rfl, h0⟩ := trodAll_one hA
  obtain ⟨rfl, rfl⟩ := trodVars_none hV
  obtain ⟨u, rfl⟩ := open_float Tryd.underlying22 (hval 0 22 v0 rfl rfl) h0
  refine (walk u W hL).mono fun e W' ⟨he, hc⟩ => ?_
  subst he
  exact ⟨_, rfl, post_true (t := 4) laidOutP (by kernel_rfl) (by kernel_rfl) Tryd.underlying4 rfl rfl hW' hc⟩

theorem facts : joinedFacts Tryd.pinned.checked.prog 3 Tryd.f3 Rows.stabNobodySpec Rows.stabNobodyRow = true := by kernel_rfl
theorem nm : Tryd.pinned.checked.prog.funcNamed Rows.stabNobodyRow.func = some 3 := by kernel_rfl
theorem holds : Rows.StabNobodySaid :=
  OpenClaim.holds_of_wide 3 Tryd.f3 rfl rfl rfl rfl rfl rfl rfl ⟨rfl, rfl, rfl, rfl, rfl⟩ rfl rfl rfl rfl rfl nm Tryd.func3 facts
    (of_decide_eq_true (by kernel_rfl)) (by unfold Func.isWrapper; rw [if_neg (by decide +kernel)]; exact ⟨rfl, rfl⟩)
    (fun os started H enc _ => lifted os started H enc)

theorem wf : Rows.stabNobodyRow.wfByText (OpenSpec.ofChange Rows.stabNobodySpec) = true := by kernel_rfl
theorem mainIs : Tryd.pinned.checked.prog.mainIs = some (true, "ffd38e6efad3246074af4013d493985e9f501d1978e07f734671bca0f1f0fe51".toList) := by kernel_rfl
theorem looks : false = Tryd.pinned.checked.prog.looks [] := by kernel_rfl
theorem goes : false = Rows.stabNobodyRow.goesBy Tryd.pinned.checked.prog := by kernel_rfl
theorem wants : ([22].all fun u => !Tryd.pinned.checked.prog.wantsStandIn u) = true := by kernel_rfl
theorem wants_at (f : FuncId) (fn : Func) (hf : Tryd.pinned.checked.prog.funcNamed Rows.stabNobodyRow.func = some f) (hfn : Tryd.pinned.checked.prog.funcs[f]? = some fn) :
    false = Tryd.pinned.checked.prog.looks [] ∧ ∀ (j : Nat) t, fn.params[j]? = some t → Tryd.pinned.checked.prog.wantsStandIn t = false := by
  obtain rfl : f = 3 := (Option.some.inj (nm.symm.trans hf)).symm
  obtain rfl : fn = Tryd.f3 := (Option.some.inj (Tryd.func3.symm.trans hfn)).symm
  refine ⟨looks, fun j t ht => ?_⟩
  rw [Tryd.params3] at ht
  have hm : t ∈ [22] := by simpa using Array.mem_of_getElem? ht
  have := List.all_eq_true.1 wants t hm
  simpa using this

/-- ████ THE STATEMENT ████ -/
theorem proved : Rows.StabNobodyCardSaid := by
  unfold Rows.StabNobodyCardSaid Rows.stabNobodyCard
  exact Claim7.holds_tied_plain_at .later [] [.data] true (true, "ffd38e6efad3246074af4013d493985e9f501d1978e07f734671bca0f1f0fe51") false holds (fun _ h => by cases h) wf (fun _ h => by cases h) stabNobody_row_tie rfl ⟨rfl, rfl⟩ mainIs rfl wants_at goes
#print axioms proved
end Go.Proofs.YtdlkmjkonpijgaaDoor.stabNobody
