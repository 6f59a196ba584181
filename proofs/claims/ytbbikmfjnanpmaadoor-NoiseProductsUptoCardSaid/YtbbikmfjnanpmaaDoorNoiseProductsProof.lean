/- The statement 'NoiseProducts' holds where what comes in is of bulk at most 1048576 (the second form), as a tied card: whatever is handed in, the Go function phasorlaw24.NoiseProducts returns true and leaves memory as it was; the table math/bits.deBruijn64tab is tied to the program's text. -/
import Derived.Test.YtbbikmfjnanpmaaDoorFg
import Derived.Test.YtbbikmfjnanpmaaDoorFj
import Derived.Test.YtbbikmfjnanpmaaDoorFk
import Derived.Test.YtbbikmfjnanpmaaDoorXA
import Derived.Test.YtbbikmfjnanpmaaDoorH1
import Derived.Test.YtbbikmfjnanpmaaDoorCards
import Derived.Test.YtbbikmfjnanpmaaDoorTie
import Derived.SevenTiedAt
import Derived.Deep.DeepHandedRow
import Derived.JoinedCond
import Derived.Carry
set_option linter.unusedVariables false
set_option linter.unusedSimpArgs false
set_option maxRecDepth 100000
namespace Go.Proofs.YtbbikmfjnanpmaaDoor.noiseProducts
open Go Go.RowKit Go.ChangeShapes Go.WideShapes Go.Deep Go.Joins Go.Proofs.YtbbikmfjnanpmaaDoor.Ab


/-- An operation, as the walk tells it. -/
def toO (a : OpV) : S40 := ⟨a.K, a.G, a.Q, a.B, a.I, a.W⟩
theorem enc_toO : ∀ l : List OpV, enc S40.cs (l.map toO) = enc OpV.cs l
  | [] => rfl
  | a :: l => by
    show S40.cs (toO a) ++ enc S40.cs (l.map toO) = a.cs ++ enc OpV.cs l
    rw [enc_toO l]
    rfl
theorem nors_ops (l : List OpV) : AV.nors (enc OpV.cs l) = true := enc_nors OpV.nor l
theorem sumO_ge {b : OpV} : ∀ {l : List OpV}, b ∈ l → (toO b).f_Qubits.length ≤ (l.map fun a => a.Q.length).sum
  | x :: l, h => by
    rcases List.mem_cons.1 h with rfl | h
    · exact Nat.le_add_right _ _
    · exact Nat.le_trans (sumO_ge h) (Nat.le_add_left _ _)
/-- An error, as the walk tells it. -/
def toL (a : SlipV) : S53 := ⟨a.A, a.N, a.X, a.Z, a.P⟩
theorem enc_toL : ∀ l : List SlipV, enc S53.cs (l.map toL) = enc SlipV.cs l
  | [] => rfl
  | a :: l => by
    show S53.cs (toL a) ++ enc S53.cs (l.map toL) = a.cs ++ enc SlipV.cs l
    rw [enc_toL l]
    rfl
theorem law_eval (N0 B0 : Int) (o0 : List OpV) (q1 : List SlipV) (q2 : List SlipV) (l0 : o0.length * 64 ≤ 140737488355328) (m0 : ∀ a, a ∈ o0 → a.Q.length * 8 ≤ 140737488355328) (l1 : q1.length * 40 ≤ 140737488355328) (l2 : q2.length * 40 ≤ 140737488355328) (hu : q1.length + q2.length ≤ 1048576) :
    ∃ F E, OV F E 6 [.agg [.i .i64 N0, .i .i64 B0, .vs o0.length .unk (enc OpV.cs o0)], .vs q1.length .unk (enc SlipV.cs q1), .vs q2.length .unk (enc SlipV.cs q2)] G0 3 (3 + 1) = some (.b true, none) := by
  refine ⟨266 + o0.length + (o0.map fun a => a.Q.length).sum + q1.length + q2.length, 200 + 1, ?_⟩
  generalize hF : 266 + o0.length + (o0.map fun a => a.Q.length).sum + q1.length + q2.length = F
  have e := elaw24_NoiseProducts 200 (by omega) F N0 B0 (o0.map toO) (q1.map toL) (q2.map toL) true
  rw [law_noiseProducts F (by omega) N0 B0 (o0.map toO) (q1.map toL) (q2.map toL) (by rw [List.length_map]; exact l0) (fun a ha => by obtain ⟨b, hb, rfl⟩ := List.mem_map.1 ha; exact ⟨m0 b hb, Nat.lt_of_le_of_lt (sumO_ge hb) (by omega)⟩) (by rw [List.length_map]; exact l1) (by rw [List.length_map]; exact l2) (by first | omega | (simp only [List.length_map]; omega)) (by first | omega | (simp only [List.length_map]; omega)) (by first | omega | (simp only [List.length_map]; omega)), List.length_map, enc_toO, List.length_map, enc_toL, List.length_map, enc_toL] at e
  have h1 : AV.nors [.agg [.i .i64 N0, .i .i64 B0, .vs o0.length .unk (enc OpV.cs o0)], .vs q1.length .unk (enc SlipV.cs q1), .vs q2.length .unk (enc SlipV.cs q2)] = true := by simp only [nors_ops, nors_slips, AV.nors, AV.nor, Bool.and_self]
  have h2 : frzs (frz true 0 [] 8) [.agg [.i .i64 N0, .i .i64 B0, .vs o0.length .unk (enc OpV.cs o0)], .vs q1.length .unk (enc SlipV.cs q1), .vs q2.length .unk (enc SlipV.cs q2)] = some [.agg [.i .i64 N0, .i .i64 B0, .vs o0.length .unk (enc OpV.cs o0)], .vs q1.length .unk (enc SlipV.cs q1), .vs q2.length .unk (enc SlipV.cs q2)] := by simp only [frzs, frz, cond_true]
  have h3 : hglb G0 3 = G0 := rfl
  rw [vlaw24_NoiseProducts, h1, cond_true, h2, h3]
  exact e

theorem walk (N0 B0 : Int) (o0 : List OpV) (q1 : List SlipV) (q2 : List SlipV) (c0 : Value) (c1 : Value) (c2 : Value) (W : World) (hL : laidMetH Tryd.prog theLaid W) (h0 : SlOpIn W c0 o0) (h1 : SlSlipIn W c1 q1) (h2 : SlSlipIn W c2 q2) (l0 : o0.length * 64 ≤ 140737488355328) (m0 : ∀ a, a ∈ o0 → a.Q.length * 8 ≤ 140737488355328) (l1 : q1.length * 40 ≤ 140737488355328) (l2 : q2.length * 40 ≤ 140737488355328) (hu : q1.length + q2.length ≤ 1048576) :
    Calls Tryd.prog 6 #[.agg #[.int .i64 N0, .int .i64 B0, c0], c1, c2] W fun e W' => e = .returned (.bool true) ∧ Chg (fun _ => False) W W' := by
  obtain ⟨F, E, hev⟩ := law_eval N0 B0 o0 q1 q2 l0 m0 l1 l2 hu
  exact calls_law hL hev (vr_cons (vr_agg (vr_cons (vr_int _ _ N0) (vr_cons (vr_int _ _ B0) (vr_cons (sl_vsO h0) (vr_nil _))))) (vr_cons (sl_vsS h1) (vr_cons (sl_vsS h2) (vr_nil _))))

theorem reads (os : Os) {H : Type} (enc : TypeId × Value → H) : ∃ places, DataW.whole enc Tryd.prog ((World.doorLaid Tryd.prog 400 os).forCall (fun _ _ => 0) ⟨#[], #[.agg #[.int .i64 0, .int .i64 0, .slice none 0 0], .slice none 0 0, .slice none 0 0], []⟩).memory Tryd.f6.params.toList (Rows.OpenSpec.upto Rows.noiseProductsSpec).vars false (#[.agg #[.int .i64 0, .int .i64 0, .slice none 0 0], .slice none 0 0, .slice none 0 0] : Array Value).toList 8 = some ([.agg [.lit (.int .i64 0), .lit (.int .i64 0), .nil], .nil, .nil], [], places) :=
  ⟨[], by kernel_rfl⟩
/-- How long a slice that came in is, by its reading's bulk. -/
theorem sl_bulk {H : Type} {enc : TypeId × Value → H} {W : World} {t e : TypeId} {v : Value} {d : DataW H} {p : List MemPlace} {len : Nat} {cs : List AV} (ht : Tryd.prog.underlying t = some (.slice e)) (h : DataW.Trod enc Tryd.prog W 0 (fun _ => true) true t v d p) (hs : SlC W v len cs) : len ≤ Rows.uptoBulk d := by
  have hl : ∀ l : List (DataW H), l.length ≤ Rows.uptoBulkAll l := fun l => by
    induction l with
    | nil => simp [Rows.uptoBulkAll]
    | cons x r ih =>
      have : 1 ≤ Rows.uptoBulk x := by
        cases x with
        | lit l => cases l <;> simp [Rows.uptoBulk]
        | _ => simp [Rows.uptoBulk]
      simp only [Rows.uptoBulkAll, List.length_cons]; omega
  obtain ⟨fuel, hf⟩ := h
  rcases hs with ⟨rfl, rfl, _⟩ | ⟨b, o, sp, cap, rfl, _⟩
  · exact Nat.zero_le _
  · rcases open_slice ht hf with ⟨hc, _⟩ | ⟨a, len', cap', m, k, D, Pc, hc, _, _, _, _, hy, _⟩
    · simp [Value.cells] at hc
    · simp [Value.cells] at hc
      obtain ⟨_, rfl, _⟩ := hc
      simp only [Prod.mk.injEq] at hy
      rw [hy.1]
      have := hl ((List.range len).map D)
      rw [List.length_map, List.length_range] at this
      simp only [Rows.uptoBulk]
      omega
theorem lifted (os : Os) (started : os.Started) (H : Type) (enc : TypeId × Value → H) (F : Stop.Interp) :
    ReturnsInHanded {} Tryd.checked os 6 .any ((Rows.OpenSpec.upto Rows.noiseProductsSpec).preRow enc Tryd.prog Tryd.f6 Rows.noiseProductsUptoRow.domain false Rows.noiseProductsUptoRow.laid) (((Rows.OpenSpec.upto Rows.noiseProductsSpec).at F).post enc Tryd.prog Tryd.f6 false true false false) := by
  obtain ⟨places, hx⟩ := reads os enc
  have hok : Input.okWideB Tryd.checked.prog ((World.doorLaid Tryd.prog 400 os).forCall (fun _ _ => 0) ⟨#[], #[.agg #[.int .i64 0, .int .i64 0, .slice none 0 0], .slice none 0 0, .slice none 0 0], []⟩) 6 ⟨#[], #[.agg #[.int .i64 0, .int .i64 0, .slice none 0 0], .slice none 0 0, .slice none 0 0], []⟩ = true := by kernel_rfl
  refine returnsInHanded_of_row (C := Tryd.checked) (s := Rows.OpenSpec.upto Rows.noiseProductsSpec) own started (by kernel_rfl) Tryd.func6
    ⟨World.doorLaid Tryd.prog 400 os, fun _ _ => 0, ⟨#[], #[.agg #[.int .i64 0, .int .i64 0, .slice none 0 0], .slice none 0 0, .slice none 0 0], []⟩, rfl, World.shaped_of_RefB (by kernel_rfl) (by kernel_rfl), rfl, (Input.okWide_of_okWideB hok).2,
      OpenSpec.preRow_of_cond 8 hx (by kernel_rfl) (fun k hk => by cases hk; kernel_rfl) (by kernel_rfl) (door_met os _), by
      simp only [Assume.holds]
      exact ⟨by simp, by simp, fun _ => Modest.zero, by simp, by simp⟩⟩ ?_
  intro W base args ds gs before hval0 hW _ hk0 hsz0 hL _ _
  have hk := hk0 _ rfl
  have hval : ∀ (j : Nat) t v, Tryd.f6.params[j]? = some t → args[j]? = some v → Value.okWide Tryd.prog W .any base t v := hval0
  have hsz : (DataW.weightsEach Tryd.prog (Tryd.f6.params.toList ++ (Rows.OpenSpec.upto Rows.noiseProductsSpec).bare.plain.varTypes Tryd.prog) (ds ++ gs)).all (· ≤ reachBytes) = true := hsz0
  clear hsz0
  have hW' := hW
  obtain ⟨p, q, hA0, hV, rfl, hfz, hnd⟩ := hW
  have hA : DataW.TrodAll enc Tryd.prog W 0 (fun _ => true) true Tryd.f6.params.toList args.toList ds p := hA0
  rw [Tryd.params6] at hA hval hsz
  obtain ⟨w0, ws0, d0, ds0, p0, ps0, hargs, rfl, rfl, h0, hA0⟩ := trodAll_cons hA
  obtain ⟨w1, ws1, d1, ds1, p1, ps1, rfl, rfl, rfl, h1, hA1⟩ := trodAll_cons hA0
  obtain ⟨w2, ws2, d2, ds2, p2, ps2, rfl, rfl, rfl, h2, hA2⟩ := trodAll_cons hA1
  obtain ⟨rfl, rfl, rfl⟩ := trodAll_nil hA2
  obtain rfl : args = #[w0, w1, w2] := by cases args; simp_all
  obtain ⟨rfl, rfl⟩ := trodVars_none hV
  simp only [List.cons_append, List.nil_append, DataW.weightsEach, List.all_append, Bool.and_eq_true] at hsz
  obtain ⟨N0, B0, c0, o0, rfl, ho0, hw0⟩ := circ_read (hval 0 _ _ rfl rfl) h0
  obtain ⟨l0, m0⟩ := hw0 hsz.1
  obtain ⟨q1, hq1, hw1⟩ := slips_read (hval 1 _ _ rfl rfl) h1
  have l1 := hw1 hsz.2.1
  obtain ⟨q2, hq2, hw2⟩ := slips_read (hval 2 _ _ rfl rfl) h2
  have l2 := hw2 hsz.2.2.1
  have b1 := sl_bulk Tryd.underlying25 h1 hq1
  have b2 := sl_bulk Tryd.underlying25 h2 hq2
  have hu : q1.length + q2.length ≤ 1048576 := by
    have h := of_decide_eq_true hk
    simp only [List.cons_append, List.nil_append, Rows.uptoBulkAll] at h
    omega
  refine (walk N0 B0 o0 q1 q2 c0 w1 w2 W hL ho0 hq1 hq2 l0 m0 l1 l2 hu).mono fun e W' ⟨he, hc⟩ => ?_
  subst he
  exact ⟨_, rfl, post_true (t := 4) laidOutP (by kernel_rfl) (by kernel_rfl) Tryd.underlying4 rfl rfl hW' hc⟩

theorem facts : joinedFacts Tryd.pinned.checked.prog 6 Tryd.f6 (Rows.OpenSpec.upto Rows.noiseProductsSpec).bare Rows.noiseProductsUptoRow = true := by kernel_rfl
theorem nm : Tryd.pinned.checked.prog.funcNamed Rows.noiseProductsUptoRow.func = some 6 := by kernel_rfl
theorem holds : Rows.NoiseProductsUptoSaid :=
  OpenClaim.holds_of_cond 6 Tryd.f6 rfl rfl rfl rfl rfl rfl rfl ⟨rfl, rfl, rfl, rfl, rfl⟩ rfl rfl rfl rfl rfl nm Tryd.func6 facts
    (of_decide_eq_true (by kernel_rfl)) (by unfold Func.isWrapper; rw [if_neg (by decide +kernel)]; exact ⟨rfl, rfl⟩)
    (fun os started H enc _ F => by rw [OpenClaim.pre_eq_preRow]; exact lifted os started H enc F)

theorem wf : Rows.noiseProductsUptoRow.wfByText (Rows.OpenSpec.upto Rows.noiseProductsSpec) = true := by kernel_rfl
theorem mainIs : Tryd.pinned.checked.prog.mainIs = some (true, "6680c7ea8588ef8ebac4e99b14b7bc3b6038399a6c19bf911a88f29581f9ca86".toList) := by kernel_rfl
theorem looks : false = Tryd.pinned.checked.prog.looks [] := by kernel_rfl
theorem goes : false = Rows.noiseProductsUptoRow.goesBy Tryd.pinned.checked.prog := by kernel_rfl
theorem wants : ([24, 25, 25].all fun u => !Tryd.pinned.checked.prog.wantsStandIn u) = true := by kernel_rfl
theorem wants_at (f : FuncId) (fn : Func) (hf : Tryd.pinned.checked.prog.funcNamed Rows.noiseProductsUptoRow.func = some f) (hfn : Tryd.pinned.checked.prog.funcs[f]? = some fn) :
    false = Tryd.pinned.checked.prog.looks [] ∧ ∀ (j : Nat) t, fn.params[j]? = some t → Tryd.pinned.checked.prog.wantsStandIn t = false := by
  obtain rfl : f = 6 := (Option.some.inj (nm.symm.trans hf)).symm
  obtain rfl : fn = Tryd.f6 := (Option.some.inj (Tryd.func6.symm.trans hfn)).symm
  refine ⟨looks, fun j t ht => ?_⟩
  rw [Tryd.params6] at ht
  have hm : t ∈ [24, 25, 25] := by simpa using Array.mem_of_getElem? ht
  have := List.all_eq_true.1 wants t hm
  simpa using this

/-- ████ THE STATEMENT ████ -/
theorem proved : Rows.NoiseProductsUptoCardSaid := by
  unfold Rows.NoiseProductsUptoCardSaid Rows.noiseProductsUptoCard
  exact Claim7.holds_tied_plain_at .later [] [.data] true (true, "6680c7ea8588ef8ebac4e99b14b7bc3b6038399a6c19bf911a88f29581f9ca86") false holds (fun _ h => by cases h) wf (fun _ h => by cases h) noiseProductsUpto_row_tie rfl ⟨rfl, rfl⟩ mainIs rfl wants_at goes
#print axioms proved
end Go.Proofs.YtbbikmfjnanpmaaDoor.noiseProducts
