/- The statement 'TableauForces' holds, as a tied card: whatever tableaux and string are handed in, the Go function phasorlaw14.TableauForces returns true and leaves memory as it was; the table math/bits.deBruijn64tab is tied to the program's text. -/
import Derived.Test.YtogkkamlmklpkaaDoorFq
import Derived.Test.YtogkkamlmklpkaaDoorW11
import Derived.Test.YtogkkamlmklpkaaDoorH1
import Derived.Test.YtogkkamlmklpkaaDoorCards
import Derived.Test.YtogkkamlmklpkaaDoorTie
import Derived.SevenTiedAt
set_option linter.unusedVariables false
set_option linter.unusedSimpArgs false
set_option maxRecDepth 100000
namespace Go.Proofs.YtogkkamlmklpkaaDoor.tableauForces
open Go Go.RowKit Go.ChangeShapes Go.WideShapes Go.Deep Go.Joins Go.Proofs.YtogkkamlmklpkaaDoor.Ab

/-- A tableau that came in. -/
def tabV (N : Int) (S D : List Pl) : AV := .agg [.i .i64 N, .vs S.length .unk (enc Pl.cells S), .vs D.length .unk (enc Pl.cells D)]
theorem law_eval (N M : Int) (S D S' D' : List Pl) (z : Pl) (l1 : S.length * 32 ≤ 140737488355328) (l2 : D.length * 32 ≤ 140737488355328) (l3 : S'.length * 32 ≤ 140737488355328) (l4 : D'.length * 32 ≤ 140737488355328) :
    ∃ F E, OV F E 7 [tabV N S D, .agg z.cells, tabV M S' D'] G0 2 (2 + 1) = some (.b true, none) := by
  refine ⟨66 + S.length + D.length + S'.length + D'.length, 100 + 1, ?_⟩
  generalize hF : 66 + S.length + D.length + S'.length + D'.length = F
  have e := elaw14_TableauForces 100 (by omega) F N S D z.N z.X z.Z z.Ph M S' D' true
  rw [law_forces F N M S D S' D' z (by omega) l1 l2 l3 l4 (by omega) (by omega) (by omega) (by omega)] at e
  have h1 : AV.nors [tabV N S D, .agg z.cells, tabV M S' D'] = true := by
    simp only [tabV, Pl.cells, AV.nors, AV.nor, encnors_Pl_cells, Bool.and_self]
  have h2 : frzs (frz true 0 [] 8) [tabV N S D, .agg z.cells, tabV M S' D'] = some [tabV N S D, .agg z.cells, tabV M S' D'] := by
    simp only [tabV, Pl.cells, frzs, frz, cond_true]
  have h3 : hglb G0 2 = G0 := rfl
  rw [vlaw14_TableauForces, h1, cond_true, h2, h3]
  exact e

theorem walk (N M : Int) (S D S' D' : List Pl) (z : Pl) (c1 c2 c3 c4 vz : Value) (W : World) (hL : laidMetH Tryd.prog theLaid W) (h1 : SlIn W c1 S) (h2 : SlIn W c2 D) (h3 : SlIn W c3 S') (h4 : SlIn W c4 D') (hz : ∀ θ, VRel θ (.agg z.cells) vz)
    (l1 : S.length * 32 ≤ 140737488355328) (l2 : D.length * 32 ≤ 140737488355328) (l3 : S'.length * 32 ≤ 140737488355328) (l4 : D'.length * 32 ≤ 140737488355328) :
    Calls Tryd.prog 7 #[.agg #[.int .i64 N, c1, c2], vz, .agg #[.int .i64 M, c3, c4]] W fun e W' => e = .returned (.bool true) ∧ Chg (fun _ => False) W W' := by
  obtain ⟨F, E, hev⟩ := law_eval N M S D S' D' z l1 l2 l3 l4
  exact calls_law hL hev (vr_cons (vr_agg (vr_cons (vr_int _ _ N) (vr_cons (sl_vs h1) (vr_cons (sl_vs h2) (vr_nil _))))) (vr_cons (hz _) (vr_cons (vr_agg (vr_cons (vr_int _ _ M) (vr_cons (sl_vs h3) (vr_cons (sl_vs h4) (vr_nil _))))) (vr_nil _))))

theorem lifted (os : Os) (started : os.Started) (H : Type) (enc : TypeId × Value → H) :
    ReturnsInHanded {} Tryd.checked os 7 .any (fun w args => (Rows.tableauForcesSpec.pre enc Tryd.prog Tryd.f7 [] false w args ∧ laidMetH Tryd.prog theLaid w) ∧ sizedMet enc Tryd.prog Tryd.f7 (OpenSpec.ofChange Rows.tableauForcesSpec) false w args)
      (Rows.tableauForcesSpec.post enc Tryd.prog Tryd.f7 false true false false) := by
  refine returnsInHanded_of_change_and (C := Tryd.checked) (X := fun w _ => laidMetH Tryd.prog theLaid w) (fun _ _ _ hh h => h.of_heap hh) own started (by kernel_rfl) Tryd.func7
    (ChangeSpec.witness_shaped (enc := enc) (C := Tryd.checked) (os := os) (X := fun w _ => laidMetH Tryd.prog theLaid w) false (World.doorLaid Tryd.prog 400 os) #[.agg #[.int .i64 0, .slice none 0 0, .slice none 0 0], .agg #[.int .i64 0, .int .u64 0, .int .u64 0, .int .i64 0], .agg #[.int .i64 0, .slice none 0 0, .slice none 0 0]] 8 rfl (World.shaped_of_RefB (by kernel_rfl) (by kernel_rfl)) (by kernel_rfl) (by kernel_rfl) (by kernel_rfl) (door_met os _)) ?_
  intro W base args ds gs before hval0 hW _ hsz0 hL _
  have hval : ∀ (j : Nat) t v, Tryd.f7.params[j]? = some t → args[j]? = some v → Value.okWide Tryd.prog W .any base t v := hval0
  have hsz : (DataW.weightsEach Tryd.prog (Tryd.f7.params.toList ++ Rows.tableauForcesSpec.plain.varTypes Tryd.prog) (ds ++ gs)).all (· ≤ reachBytes) = true := hsz0
  clear hsz0
  have hW' := hW
  obtain ⟨p, q, hA0, hV, rfl, hfz, hnd⟩ := hW
  have hA : DataW.TrodAll enc Tryd.prog W 0 (fun _ => true) true Tryd.f7.params.toList args.toList ds p := hA0
  rw [Tryd.params7] at hA hval hsz
  obtain ⟨v0, v1, v2, d0, d1, d2, p0, p1, p2, rfl, rfl, rfl, h0, h1, h2⟩ := trodAll_three hA
  obtain ⟨rfl, rfl⟩ := trodVars_none hV
  simp only [List.cons_append, List.nil_append, DataW.weightsEach, List.all_append, Bool.and_eq_true] at hsz
  obtain ⟨N, c1, c2, S, D, rfl, hS, hD, hw⟩ := tab_read (hval 0 _ _ rfl rfl) h0
  obtain ⟨z, hz⟩ := pl_read (hval 1 _ _ rfl rfl) h1
  obtain ⟨M, c3, c4, S', D', rfl, hS', hD', hw'⟩ := tab_read (hval 2 _ _ rfl rfl) h2
  obtain ⟨l1, l2⟩ := hw hsz.1
  obtain ⟨l3, l4⟩ := hw' hsz.2.2.1
  refine (walk N M S D S' D' z c1 c2 c3 c4 v1 W hL hS hD hS' hD' hz l1 l2 l3 l4).mono fun e W' ⟨he, hc⟩ => ?_
  subst he
  exact ⟨_, rfl, post_true (t := 4) laidOutP (by kernel_rfl) (by kernel_rfl) Tryd.underlying4 rfl rfl hW' hc⟩

theorem facts : joinedFacts Tryd.pinned.checked.prog 7 Tryd.f7 Rows.tableauForcesSpec Rows.tableauForcesRow = true := by kernel_rfl
theorem nm : Tryd.pinned.checked.prog.funcNamed Rows.tableauForcesRow.func = some 7 := by kernel_rfl
theorem holds : Rows.TableauForcesSaid :=
  OpenClaim.holds_of_wide 7 Tryd.f7 rfl rfl rfl rfl rfl rfl rfl ⟨rfl, rfl, rfl, rfl, rfl⟩ rfl rfl rfl rfl rfl nm Tryd.func7 facts
    (of_decide_eq_true (by kernel_rfl)) (by unfold Func.isWrapper; rw [if_neg (by decide +kernel)]; exact ⟨rfl, rfl⟩)
    (fun os started H enc _ => lifted os started H enc)

theorem wf : Rows.tableauForcesRow.wfByText (OpenSpec.ofChange Rows.tableauForcesSpec) = true := by kernel_rfl
theorem mainIs : Tryd.pinned.checked.prog.mainIs = some (true, "87407f31f697ee641de07323422a65e494f6bbeb9e2307b60245f240e9e7441b".toList) := by kernel_rfl
theorem looks : false = Tryd.pinned.checked.prog.looks [] := by kernel_rfl
theorem goes : false = Rows.tableauForcesRow.goesBy Tryd.pinned.checked.prog := by kernel_rfl
theorem wants : ([24, 39, 24].all fun u => !Tryd.pinned.checked.prog.wantsStandIn u) = true := by kernel_rfl
theorem wants_at (f : FuncId) (fn : Func) (hf : Tryd.pinned.checked.prog.funcNamed Rows.tableauForcesRow.func = some f) (hfn : Tryd.pinned.checked.prog.funcs[f]? = some fn) :
    false = Tryd.pinned.checked.prog.looks [] ∧ ∀ (j : Nat) t, fn.params[j]? = some t → Tryd.pinned.checked.prog.wantsStandIn t = false := by
  obtain rfl : f = 7 := (Option.some.inj (nm.symm.trans hf)).symm
  obtain rfl : fn = Tryd.f7 := (Option.some.inj (Tryd.func7.symm.trans hfn)).symm
  refine ⟨looks, fun j t ht => ?_⟩
  rw [Tryd.params7] at ht
  have hm : t ∈ [24, 39, 24] := by simpa using Array.mem_of_getElem? ht
  have := List.all_eq_true.1 wants t hm
  simpa using this

/-- ████ THE STATEMENT ████ -/
theorem proved : Rows.TableauForcesCardSaid := by
  unfold Rows.TableauForcesCardSaid Rows.tableauForcesCard
  exact Claim7.holds_tied_plain_at .later [] [.data] true (true, "87407f31f697ee641de07323422a65e494f6bbeb9e2307b60245f240e9e7441b") false holds (fun _ h => by cases h) wf (fun _ h => by cases h) tableauForces_row_tie rfl ⟨rfl, rfl⟩ mainIs rfl wants_at goes
#print axioms proved
end Go.Proofs.YtogkkamlmklpkaaDoor.tableauForces
