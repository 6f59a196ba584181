/- Functions of the program as plain functions, and that the abstract machine's evaluation comes to them. Written by G.py. No condition. -/
import Derived.Test.YtogkkamlmklpkaaDoorHd
set_option maxRecDepth 100000
set_option maxHeartbeats 4000000
set_option linter.unusedVariables false
set_option linter.unusedSimpArgs false
namespace Go.Proofs.YtogkkamlmklpkaaDoor.Ab
open Go
theorem len_Pl_cells : ∀ x, (Pl.cells x).length = 4 := fun _ => rfl
theorem nors_Pl_cells (x : Pl) : AV.nors (Pl.cells x) = true := by simp only [Pl.cells, AV.nors, AV.nor, Bool.and_self]
theorem one_Pl_cells (x : Pl) : (Pl.cells x).all AV.one = true := by simp only [Pl.cells, List.all_cons, List.all_nil, AV.one, Bool.and_self]
theorem flat_Pl_cells (x : Pl) : (Pl.cells x).all AV.flat1 = true := by simp only [Pl.cells, List.all_cons, List.all_nil, AV.flat1, Bool.and_self]
theorem encnors_Pl_cells (l : List Pl) : AV.nors (enc Pl.cells l) = true := enc_nors nors_Pl_cells l
theorem enclen_Pl_cells (l : List Pl) : (enc Pl.cells l).length = l.length * 4 := enc_len len_Pl_cells l
theorem encone_Pl_cells (l : List Pl) : (enc Pl.cells l).all AV.one = true := enc_all one_Pl_cells l
theorem encall_Pl_cells (l : List Pl) : (enc Pl.cells l).all AV.flat1 = true := enc_all flat_Pl_cells l
theorem flatt_Pl_cells (x : Pl) : (Pl.cells x).all AV.flat2 = true := by simp only [Pl.cells, List.all_cons, List.all_nil, AV.flat2, Bool.and_self]
theorem encflat_Pl_cells {q : Bool} {b : Nat} {h : AHeap} {f : Nat} (l : List Pl) : frzs (frz q b h (f + 1)) (enc Pl.cells l) = some (enc Pl.cells l) := frzs_flat2 (enc_all flatt_Pl_cells l)
theorem enctake_Pl_cells (l : List Pl) : (enc Pl.cells l).take (l.length * 4) = enc Pl.cells l := by simpa only [Nat.mul_one] using enc_take len_Pl_cells l
theorem encids_Pl_cells {b : Nat} {l : List Nat} (m : List Pl) : AV.idss b (enc Pl.cells m) l = l := idss_nors (encnors_Pl_cells m)
theorem encren_Pl_cells {b c : Nat} {l : List Nat} (m : List Pl) : AV.rens b c l (enc Pl.cells m) = some (enc Pl.cells m) := rens_id (encnors_Pl_cells m)
theorem encold_Pl_cells {b : Nat} (m : List Pl) : AV.olds b (enc Pl.cells m) = true := olds_nors (encnors_Pl_cells m)
theorem encpart_Pl_cells (l : List Pl) (k : Nat) : (enc Pl.cells l).take (k * 4) = enc Pl.cells (l.take k) := by simpa only [Nat.mul_one] using enc_takew len_Pl_cells l k
theorem encdrop_Pl_cells (l : List Pl) (k : Nat) : (enc Pl.cells l).drop (k * 4) = enc Pl.cells (l.drop k) := by simpa only [Nat.mul_one] using enc_dropw len_Pl_cells l k
theorem pk_Pl_cells {l : List Pl} {j : Int} {x : Pl} (h : idx l j = some x) : idx l j = some x ∧ inb j l.length = true ∧ apart_ ((enc Pl.cells l).drop (j.toNat * 4)) 0 (some 4) = some (.agg (Pl.cells x)) ∧ apart_ ((enc Pl.cells l).drop (j.toNat * 4)) 0 none = (Pl.cells x)[0]? ∧ apart_ (((enc Pl.cells l).drop (j.toNat * 4)).drop 1) 0 none = (Pl.cells x)[1]? ∧ apart_ (((enc Pl.cells l).drop (j.toNat * 4)).drop 2) 0 none = (Pl.cells x)[2]? ∧ apart_ (((enc Pl.cells l).drop (j.toNat * 4)).drop 3) 0 none = (Pl.cells x)[3]? ∧ apart_ (enc Pl.cells l) (j.toNat * 4) (some 4) = some (.agg (Pl.cells x)) ∧ apart_ (enc Pl.cells l) (j.toNat * 4) none = (Pl.cells x)[0]? ∧ apart_ (enc Pl.cells l) (j.toNat * 4 + 1) none = (Pl.cells x)[1]? ∧ apart_ (enc Pl.cells l) (j.toNat * 4 + 2) none = (Pl.cells x)[2]? ∧ apart_ (enc Pl.cells l) (j.toNat * 4 + 3) none = (Pl.cells x)[3]? := ⟨h, idx_inb h, vp_row len_Pl_cells h, vp_cell0 len_Pl_cells h (by decide), vp_cell (k := 1) len_Pl_cells h (by decide), vp_cell (k := 2) len_Pl_cells h (by decide), vp_cell (k := 3) len_Pl_cells h (by decide), own_row len_Pl_cells h, own_cell0 len_Pl_cells h (by decide), own_cell (k := 1) len_Pl_cells h (by decide), own_cell (k := 2) len_Pl_cells h (by decide), own_cell (k := 3) len_Pl_cells h (by decide)⟩
def EVE := PLift.up <| And.intro @Pl.cells.eq_1 (And.intro @encnors_Pl_cells (And.intro @enclen_Pl_cells (And.intro @encone_Pl_cells (And.intro @encall_Pl_cells (And.intro @encflat_Pl_cells (And.intro @enctake_Pl_cells (And.intro @encids_Pl_cells (And.intro @encren_Pl_cells (And.intro @encold_Pl_cells @encpart_Pl_cells)))))))))
def EVA := PLift.up <| And.intro EV0.down <| And.intro EV1.down <| And.intro EV2.down <| And.intro EV3.down <| And.intro EV4.down <| And.intro EV5.down <| And.intro EV6.down <| And.intro EV7.down <| And.intro EVK.down <| And.intro EVN.down <| And.intro EVE.down @kont_ret

theorem epauli_Check (D : Nat) (hD : 0 ≤ D) (F : Nat) (a0_N : Int) (a0_X : BitVec 64) (a0_Z : BitVec 64) (a0_Phase : Int) (q : Bool) : evW 2 (OV F D) F a97 (some [.agg [.i .i64 (a0_N), .i .u64 (U (a0_X)), .i .u64 (U (a0_Z)), .i .i64 (a0_Phase)]]) q G0 =
    some (.i .i64 ((Ppauli_Check a0_N a0_X a0_Z a0_Phase)), none) := by
  rw [evW_some, G0]
  simp only [Ppauli_Check]
  by_cases h1 : a0_N < (0 : Int)
  rotate_left
  by_cases h2 : a0_N > (64 : Int)
  rotate_left
  by_cases h3 : a0_Phase < (0 : Int)
  rotate_left
  by_cases h4 : a0_Phase > (3 : Int)
  rotate_left
  by_cases h5 : a0_N < (64 : Int)
  by_cases h6 : ((a0_X ||| a0_Z) >>> a0_N.toNat) = 0#64
  replace h6 := eq_true h6
  rotate_left
  rotate_left
  rotate_left
  all_goals simp -implicitDefEqProofs only [*, a97, EVA.down, ne_eq, seval]

theorem vpauli_Check {D F n : Nat} {args : List AV} {h : AHeap} : OV F (D + 1) 97 args h n (n + 1) = evW 2 (OV F D) F a97 (frzs (frz true 0 (bif AV.nors args then [] else h) 8) args) (AV.nors args) (hglb h 2) := evV_frozen rfl

theorem epauli_right (D : Nat) (hD : 1 ≤ D) (F : Nat) (a0_N : Int) (a0_X : BitVec 64) (a0_Z : BitVec 64) (a0_Phase : Int) (q : Bool) : evW 2 (OV F D) F a76 (some [.agg [.i .i64 (a0_N), .i .u64 (U (a0_X)), .i .u64 (U (a0_Z)), .i .i64 (a0_Phase)]]) q G0 =
    some (.b ((Ppauli_right a0_N a0_X a0_Z a0_Phase)), none) := by
  obtain ⟨D, rfl⟩ : ∃ E, D = E + 1 := ⟨D - 1, by omega⟩
  have cpauli_Check0 := epauli_Check (D) (by omega) F
  rw [evW_some, G0]
  skip
  rotate_left
  all_goals simp -implicitDefEqProofs only [*, a76, Ppauli_right, vpauli_Check, EVA.down, ne_eq, seval]

theorem vpauli_right {D F n : Nat} {args : List AV} {h : AHeap} : OV F (D + 1) 76 args h n (n + 1) = evW 2 (OV F D) F a76 (frzs (frz true 0 (bif AV.nors args then [] else h) 8) args) (AV.nors args) (hglb h 2) := evV_frozen rfl

theorem epauli_Hermitian (D : Nat) (hD : 2 ≤ D) (F : Nat) (a0_N : Int) (a0_X : BitVec 64) (a0_Z : BitVec 64) (a0_Phase : Int) (q : Bool) : evW 2 (OV F D) F a39 (some [.agg [.i .i64 (a0_N), .i .u64 (U (a0_X)), .i .u64 (U (a0_Z)), .i .i64 (a0_Phase)]]) q G0 =
    some (.b ((Ppauli_Hermitian a0_N a0_X a0_Z a0_Phase)), none) := by
  obtain ⟨D, rfl⟩ : ∃ E, D = E + 2 := ⟨D - 2, by omega⟩
  have cpauli_right0 := epauli_right (D + 1) (by omega) F
  rw [evW_some, G0]
  simp only [Ppauli_Hermitian]
  rcases h1 : ((Ppauli_right a0_N a0_X a0_Z a0_Phase)) with _ | _
  rotate_left
  rotate_left
  all_goals simp -implicitDefEqProofs only [*, a39, vpauli_right, EVA.down, ne_eq, seval]

theorem vpauli_Hermitian {D F n : Nat} {args : List AV} {h : AHeap} : OV F (D + 1) 39 args h n (n + 1) = evW 2 (OV F D) F a39 (frzs (frz true 0 (bif AV.nors args then [] else h) 8) args) (AV.nors args) (hglb h 2) := evV_frozen rfl

theorem ltableau_CheckL0 (D : Nat) (hD : 3 ≤ D) (F : Nat) (v0 : Int) (v1 : Int) (v2 : Int) (v4 : Int) (v5 : List Pl) (v6 : List Pl) (v7 : Int) (v8 : BitVec 64) (v9 : BitVec 64) (v10 : Int) (v11 : Int) (v12 : BitVec 64) (v13 : BitVec 64) (v14 : Int) (K : AE → AS → Option Res) : ∀ (f : Nat) (v3 : Int) (s : AS), s.keepG 2 [1, 33, 34, 47, 48, 49] [1] = some ⟨[(1, .lp 1 0), (33, .i .i64 (v0)), (34, .i .i64 (v1)), (47, .sl (some (2, 0)) (2) (.ex (2))), (48, .i .i64 (v2)), (49, .i .i64 (v3))], [(1, [.i .i64 (v4), .vs (v5.length) .unk (enc Pl.cells v5), .vs (v6.length) .unk (enc Pl.cells v6)])], [(2, ⟨true, false, 39, 4, [.i .i64 (v7), .i .u64 (U (v8)), .i .u64 (U (v9)), .i .i64 (v10), .i .i64 (v11), .i .u64 (U (v12)), .i .u64 (U (v13)), .i .i64 (v14)]⟩), (0, tab64)], 3⟩ →
    evLoop (evC (OV F D) 2 F a14L0) f s K = match Ptableau_CheckL0 v0 v1 v2 v4 v5 v6 v7 v8 v9 v10 v11 v12 v13 v14 f v3 with | none => none | some (.inl _) => K .ret ⟨[(2, .i .i64 ((140 : Int)))], [], [(0, tab64)], 2⟩ | some (.inr _) => K (.ex 2) ⟨[(1, .lp 1 0), (33, .i .i64 (v0)), (34, .i .i64 (v1))], [(1, [.i .i64 (v4), .vs (v5.length) .unk (enc Pl.cells v5), .vs (v6.length) .unk (enc Pl.cells v6)])], [(0, tab64)], 2⟩ := by
  obtain ⟨D, rfl⟩ : ∃ E, D = E + 3 := ⟨D - 3, by omega⟩
  have cpauli_Hermitian0 := epauli_Hermitian (D + 2) (by omega) F
  intro f
  induction f with
  | zero => intro v3 s hs; simp only [evLoop, Ptableau_CheckL0]
  | succ f ih =>
    intro v3 s hs
    obtain ⟨k0, hk, hn, he, hr⟩ := @lk_all (OV F (D + 3)) 2 F a14L0 f K
    rw [loop_succ, hk, a14L0, runC_cutg, hs]
    clear hs
    simp only [Ptableau_CheckL0]
    clear hk
    by_cases h1 : v3 < v2
    by_cases h2 : v3 = (0 : Int)
    replace h2 := eq_true h2
    have h3 : inb v3 2 = true := by rw [(of_eq_true h2)]; decide
    have h4 : Int.toNat v3 = 0 := by rw [(of_eq_true h2)]; rfl
    by_cases h5 : v7 = v4
    replace h5 := eq_true h5
    rcases h6 : ((Ppauli_Hermitian v7 v8 v9 v10)) with _ | _
    rotate_left
    rotate_left
    rotate_left
    by_cases h7 : v3 = (1 : Int)
    replace h7 := eq_true h7
    have h8 : inb v3 2 = true := by rw [(of_eq_true h7)]; decide
    have h9 : Int.toNat v3 = 1 := by rw [(of_eq_true h7)]; rfl
    by_cases h10 : v11 = v4
    replace h10 := eq_true h10
    rcases h11 : ((Ppauli_Hermitian v11 v12 v13 v14)) with _ | _
    rotate_left
    rotate_left
    rotate_left
    have h12 : inb v3 2 = false := by simp only [inb, Bool.and_eq_false_iff, decide_eq_false_iff_not]; omega
    rotate_left
    rotate_left
    all_goals simp -implicitDefEqProofs only [*, -ih, vpauli_Hermitian, EVA.down, ne_eq, seval]
    all_goals exact ih _ _ (by simp only [*, -ih, vpauli_Hermitian, EVA.down, ne_eq, seval])

theorem ltableau_CheckL1 (D : Nat) (hD : 3 ≤ D) (F : Nat) (v0 : Int) (v2 : Int) (v3 : List Pl) (v4 : List Pl) (K : AE → AS → Option Res) : ∀ (f : Nat) (v1 : Int) (s : AS), s.keepG 2 [1, 33, 34] [1] = some ⟨[(1, .lp 1 0), (33, .i .i64 (v0)), (34, .i .i64 (v1))], [(1, [.i .i64 (v2), .vs (v3.length) .unk (enc Pl.cells v3), .vs (v4.length) .unk (enc Pl.cells v4)])], [(0, tab64)], 2⟩ →
    evLoop (evC (OV F D) 2 F a14L1) f s K = match Ptableau_CheckL1 F v0 v2 v3 v4 f v1 with | none => none | some (.inl _) => K .ret ⟨[(2, .i .i64 ((140 : Int)))], [], [(0, tab64)], 2⟩ | some (.inr _) => K (.ex 0) ⟨[(1, .lp 1 0)], [(1, [.i .i64 (v2), .vs (v3.length) .unk (enc Pl.cells v3), .vs (v4.length) .unk (enc Pl.cells v4)])], [(0, tab64)], 2⟩ := by
  obtain ⟨D, rfl⟩ : ∃ E, D = E + 3 := ⟨D - 3, by omega⟩
  intro f
  induction f with
  | zero => intro v1 s hs; simp only [evLoop, Ptableau_CheckL1]
  | succ f ih =>
    intro v1 s hs
    obtain ⟨k0, hk, hn, he, hr⟩ := @lk_all (OV F (D + 3)) 2 F a14L1 f K
    rw [loop_succ, hk, a14L1, runC_cutg, hs]
    clear hs
    simp only [Ptableau_CheckL1]
    clear hk
    by_cases h1 : v1 < v0
    rcases h2 : (idx v3 v1) with _ | x1
    replace h2 := pkn h2
    rotate_left
    replace h2 := pk_Pl_cells h2
    rcases h3 : (idx v4 v1) with _ | x2
    replace h3 := pkn h3
    rotate_left
    replace h3 := pk_Pl_cells h3
    simp -implicitDefEqProofs only [*, -ih, runC_loop, EVA.down, ne_eq, seval]
    rw [ltableau_CheckL0 (D + 3) (by omega) F v0 v1 (2 : Int) v2 v3 v4 x1.N x1.X x1.Z x1.Ph x2.N x2.X x2.Z x2.Ph _ F (0 : Int) _ (by simp only [*, -ih, EVA.down, ne_eq, seval]; try rfl)]
    rcases h4 : (Ptableau_CheckL0 v0 v1 (2 : Int) v2 v3 v4 x1.N x1.X x1.Z x1.Ph x2.N x2.X x2.Z x2.Ph F (0 : Int)) with _ | (_ | _)
    rotate_left
    rotate_left
    rotate_left
    rotate_left
    all_goals simp -implicitDefEqProofs only [*, -ih, EVA.down, ne_eq, seval]
    all_goals exact ih _ _ (by simp only [*, -ih, EVA.down, ne_eq, seval])

theorem ebits_OnesCount64 (D : Nat) (hD : 0 ≤ D) (F : Nat) (a0 : BitVec 64) (q : Bool) : evW 2 (OV F D) F a77 (some [.i .u64 (U (a0))]) q G0 =
    some (.i .i64 ((Pbits_OnesCount64 a0)), none) := by
  have u2 : AV.i .u64 2 = .i .u64 (U 2#64) := id rfl
  have u4 : AV.i .u64 4 = .i .u64 (U 4#64) := id rfl
  have u8 : AV.i .u64 8 = .i .u64 (U 8#64) := id rfl
  have u16 : AV.i .u64 16 = .i .u64 (U 16#64) := id rfl
  have u32 : AV.i .u64 32 = .i .u64 (U 32#64) := id rfl
  have u1085102592571150095 : AV.i .u64 1085102592571150095 = .i .u64 (U 1085102592571150095#64) := id rfl
  have u3689348814741910323 : AV.i .u64 3689348814741910323 = .i .u64 (U 3689348814741910323#64) := id rfl
  have u6148914691236517205 : AV.i .u64 6148914691236517205 = .i .u64 (U 6148914691236517205#64) := id rfl
  rw [evW_some, G0]
  skip
  rotate_left
  all_goals simp -implicitDefEqProofs only [*, a77, Pbits_OnesCount64, EVA.down, ne_eq, seval]

theorem vbits_OnesCount64 {D F n : Nat} {args : List AV} {h : AHeap} : OV F (D + 1) 77 args h n (n + 1) = evW 2 (OV F D) F a77 (frzs (frz true 0 (bif AV.nors args then [] else h) 8) args) (AV.nors args) (hglb h 2) := evV_frozen rfl

theorem etableau_commute (D : Nat) (hD : 1 ≤ D) (F : Nat) (a0_N : Int) (a0_X : BitVec 64) (a0_Z : BitVec 64) (a0_Phase : Int) (a1_N : Int) (a1_X : BitVec 64) (a1_Z : BitVec 64) (a1_Phase : Int) (q : Bool) : evW 2 (OV F D) F a40 (some [.agg [.i .i64 (a0_N), .i .u64 (U (a0_X)), .i .u64 (U (a0_Z)), .i .i64 (a0_Phase)], .agg [.i .i64 (a1_N), .i .u64 (U (a1_X)), .i .u64 (U (a1_Z)), .i .i64 (a1_Phase)]]) q G0 =
    some (.b ((Ptableau_commute a0_N a0_X a0_Z a0_Phase a1_N a1_X a1_Z a1_Phase)), none) := by
  obtain ⟨D, rfl⟩ : ∃ E, D = E + 1 := ⟨D - 1, by omega⟩
  have cbits_OnesCount640 := ebits_OnesCount64 (D) (by omega) F
  rw [evW_some, G0]
  skip
  rotate_left
  all_goals simp -implicitDefEqProofs only [*, a40, Ptableau_commute, vbits_OnesCount64, EVA.down, ne_eq, seval]

theorem vtableau_commute {D F n : Nat} {args : List AV} {h : AHeap} : OV F (D + 1) 40 args h n (n + 1) = evW 2 (OV F D) F a40 (frzs (frz true 0 (bif AV.nors args then [] else h) 8) args) (AV.nors args) (hglb h 2) := evV_frozen rfl

theorem ltableau_CheckL2 (D : Nat) (hD : 2 ≤ D) (F : Nat) (v0 : Int) (v1 : Int) (v2 : Int) (v3 : Int) (v5 : Int) (v6 : List Pl) (v7 : List Pl) (K : AE → AS → Option Res) : ∀ (f : Nat) (v4 : Int) (s : AS), s.keepG 2 [1, 6, 66, 67, 71, 72] [1] = some ⟨[(1, .lp 1 0), (6, .i .i64 (v0)), (66, .i .i64 (v1)), (67, .i .i64 (v2)), (71, .i .i64 (v3)), (72, .i .i64 (v4))], [(1, [.i .i64 (v5), .vs (v6.length) .unk (enc Pl.cells v6), .vs (v7.length) .unk (enc Pl.cells v7)])], [(0, tab64)], 2⟩ →
    evLoop (evC (OV F D) 2 F a14L2) f s K = match Ptableau_CheckL2 v0 v1 v2 v3 v5 v6 v7 f v4 with | none => none | some (.inl _) => K .ret ⟨[(2, .i .i64 ((140 : Int)))], [], [(0, tab64)], 2⟩ | some (.inr _) => K (.ex 6) ⟨[(1, .lp 1 0), (66, .i .i64 (v1)), (67, .i .i64 (v2))], [(1, [.i .i64 (v5), .vs (v6.length) .unk (enc Pl.cells v6), .vs (v7.length) .unk (enc Pl.cells v7)])], [(0, tab64)], 2⟩ := by
  obtain ⟨D, rfl⟩ : ∃ E, D = E + 2 := ⟨D - 2, by omega⟩
  have ctableau_commute0 := etableau_commute (D + 1) (by omega) F
  intro f
  induction f with
  | zero => intro v4 s hs; simp only [evLoop, Ptableau_CheckL2]
  | succ f ih =>
    intro v4 s hs
    obtain ⟨k0, hk, hn, he, hr⟩ := @lk_all (OV F (D + 2)) 2 F a14L2 f K
    rw [loop_succ, hk, a14L2, runC_cutg, hs]
    clear hs
    simp only [Ptableau_CheckL2]
    clear hk
    by_cases h1 : v4 < v3
    rcases h2 : (idx v6 v0) with _ | x1
    replace h2 := pkn h2
    rotate_left
    replace h2 := pk_Pl_cells h2
    rcases h3 : (idx v6 v4) with _ | x2
    replace h3 := pkn h3
    rotate_left
    replace h3 := pk_Pl_cells h3
    rcases h4 : ((Ptableau_commute x1.N x1.X x1.Z x1.Ph x2.N x2.X x2.Z x2.Ph)) with _ | _
    rotate_left
    rcases h5 : (idx v7 v0) with _ | x3
    replace h5 := pkn h5
    rotate_left
    replace h5 := pk_Pl_cells h5
    rcases h6 : (idx v7 v4) with _ | x4
    replace h6 := pkn h6
    rotate_left
    replace h6 := pk_Pl_cells h6
    rcases h7 : ((Ptableau_commute x3.N x3.X x3.Z x3.Ph x4.N x4.X x4.Z x4.Ph)) with _ | _
    rotate_left
    by_cases h8 : v0 = v4
    replace h8 := eq_true h8
    rcases h9 : ((Ptableau_commute x3.N x3.X x3.Z x3.Ph x2.N x2.X x2.Z x2.Ph)) with _ | _
    rotate_left
    rotate_left
    rcases h10 : ((Ptableau_commute x3.N x3.X x3.Z x3.Ph x2.N x2.X x2.Z x2.Ph)) with _ | _
    rotate_left
    rotate_left
    rotate_left
    all_goals simp -implicitDefEqProofs only [*, -ih, vtableau_commute, EVA.down, ne_eq, seval]
    all_goals exact ih _ _ (by simp only [*, -ih, vtableau_commute, EVA.down, ne_eq, seval])

theorem ltableau_CheckL3 (D : Nat) (hD : 2 ≤ D) (F : Nat) (v0 : Int) (v2 : Int) (v3 : List Pl) (v4 : List Pl) (K : AE → AS → Option Res) : ∀ (f : Nat) (v1 : Int) (s : AS), s.keepG 2 [1, 66, 67] [1] = some ⟨[(1, .lp 1 0), (66, .i .i64 (v0)), (67, .i .i64 (v1))], [(1, [.i .i64 (v2), .vs (v3.length) .unk (enc Pl.cells v3), .vs (v4.length) .unk (enc Pl.cells v4)])], [(0, tab64)], 2⟩ →
    evLoop (evC (OV F D) 2 F a14L3) f s K = match Ptableau_CheckL3 F v0 v2 v3 v4 f v1 with | none => none | some (.inl _) => K .ret ⟨[(2, .i .i64 ((140 : Int)))], [], [(0, tab64)], 2⟩ | some (.inr _) => K (.ex 4) ⟨[], [], [(0, tab64)], 2⟩ := by
  obtain ⟨D, rfl⟩ : ∃ E, D = E + 2 := ⟨D - 2, by omega⟩
  intro f
  induction f with
  | zero => intro v1 s hs; simp only [evLoop, Ptableau_CheckL3]
  | succ f ih =>
    intro v1 s hs
    obtain ⟨k0, hk, hn, he, hr⟩ := @lk_all (OV F (D + 2)) 2 F a14L3 f K
    rw [loop_succ, hk, a14L3, runC_cutg, hs]
    clear hs
    simp only [Ptableau_CheckL3]
    clear hk
    by_cases h1 : v1 < v0
    simp -implicitDefEqProofs only [*, -ih, runC_loop, EVA.down, ne_eq, seval]
    rw [ltableau_CheckL2 (D + 2) (by omega) F v1 v0 v1 v2 v2 v3 v4 _ F (0 : Int) _ (by simp only [*, -ih, EVA.down, ne_eq, seval]; try rfl)]
    rcases h2 : (Ptableau_CheckL2 v1 v0 v1 v2 v2 v3 v4 F (0 : Int)) with _ | (_ | _)
    rotate_left
    rotate_left
    rotate_left
    rotate_left
    all_goals simp -implicitDefEqProofs only [*, -ih, EVA.down, ne_eq, seval]
    all_goals exact ih _ _ (by simp only [*, -ih, EVA.down, ne_eq, seval])

theorem etableau_Check (D : Nat) (hD : 3 ≤ D) (F : Nat) (a0_N : Int) (a0_Stab : List Pl) (a0_Destab : List Pl) (q : Bool) : evW 2 (OV F D) F a14 (some [.agg [.i .i64 (a0_N), .vs (a0_Stab.length) .unk (enc Pl.cells a0_Stab), .vs (a0_Destab.length) .unk (enc Pl.cells a0_Destab)]]) q G0 =
    match Ptableau_Check F a0_N a0_Stab a0_Destab with | none => none | some r0 => some (.i .i64 (r0), none) := by
  obtain ⟨D, rfl⟩ : ∃ E, D = E + 3 := ⟨D - 3, by omega⟩
  rw [evW_some, G0]
  simp only [Ptableau_Check]
  by_cases h1 : a0_N < (0 : Int)
  rotate_left
  by_cases h2 : a0_N > (64 : Int)
  rotate_left
  by_cases h3 : (a0_Stab.length : Int) = a0_N
  replace h3 := eq_true h3
  by_cases h4 : (a0_Destab.length : Int) = a0_N
  replace h4 := eq_true h4
  simp -implicitDefEqProofs only [*, a14, runC_loop, EVA.down, ne_eq, seval]
  rw [ltableau_CheckL1 (D + 3) (by omega) F a0_N a0_N a0_Stab a0_Destab _ F (0 : Int) _ (by simp only [*, a14, EVA.down, ne_eq, seval]; try rfl)]
  rcases h5 : (Ptableau_CheckL1 F a0_N a0_N a0_Stab a0_Destab F (0 : Int)) with _ | (_ | _)
  rotate_left
  rotate_left
  simp -implicitDefEqProofs only [*, a14, runC_loop, EVA.down, ne_eq, seval]
  rw [ltableau_CheckL3 (D + 3) (by omega) F a0_N a0_N a0_Stab a0_Destab _ F (0 : Int) _ (by simp only [*, a14, EVA.down, ne_eq, seval]; try rfl)]
  rcases h6 : (Ptableau_CheckL3 F a0_N a0_N a0_Stab a0_Destab F (0 : Int)) with _ | (_ | _)
  rotate_left
  rotate_left
  rotate_left
  rotate_left
  rotate_left
  all_goals simp -implicitDefEqProofs only [*, a14, EVA.down, ne_eq, seval]

theorem vtableau_Check {D F n : Nat} {args : List AV} {h : AHeap} : OV F (D + 1) 14 args h n (n + 1) = evW 2 (OV F D) F a14 (frzs (frz true 0 (bif AV.nors args then [] else h) 8) args) (AV.nors args) (hglb h 2) := evV_frozen rfl

theorem etableau_asked (D : Nat) (hD : 4 ≤ D) (F : Nat) (a0_N : Int) (a0_Stab : List Pl) (a0_Destab : List Pl) (a1 : Int) (q : Bool) : evW 2 (OV F D) F a56 (some [.agg [.i .i64 (a0_N), .vs (a0_Stab.length) .unk (enc Pl.cells a0_Stab), .vs (a0_Destab.length) .unk (enc Pl.cells a0_Destab)], .i .i64 (a1)]) q G0 =
    match Ptableau_asked F a0_N a0_Stab a0_Destab a1 with | none => none | some r0 => some (.i .i64 (r0), none) := by
  obtain ⟨D, rfl⟩ : ∃ E, D = E + 4 := ⟨D - 4, by omega⟩
  have ctableau_Check0 := etableau_Check (D + 3) (by omega) F
  rw [evW_some, G0]
  simp only [Ptableau_asked]
  rcases h1 : (Ptableau_Check F a0_N a0_Stab a0_Destab) with _ | r1
  rotate_left
  by_cases h2 : r1 = (0 : Int)
  replace h2 := eq_true h2
  by_cases h3 : a1 < (0 : Int)
  rotate_left
  by_cases h4 : a1 ≥ a0_N
  rotate_left
  rotate_left
  rotate_left
  all_goals simp -implicitDefEqProofs only [*, a56, vtableau_Check, EVA.down, ne_eq, seval]

theorem vtableau_asked {D F n : Nat} {args : List AV} {h : AHeap} : OV F (D + 1) 56 args h n (n + 1) = evW 2 (OV F D) F a56 (frzs (frz true 0 (bif AV.nors args then [] else h) 8) args) (AV.nors args) (hglb h 2) := evV_frozen rfl

theorem wtableau_open_1 {D F n : Nat} {args : List AV} {h : AHeap} : OV F (D + 1) 87 args h n (n + 1) = match frzs (frz true 0 (bif AV.nors args then [] else h) 8) args with | none => none | some zs => match evFn (OV F D) 2 F a87 zs (hglb h 2) 2 with | none => none | some (v, h', _) => match frz (AV.nors args) 2 h' 8 v with | some v' => some (v', none) | none => none := (evV_frozen rfl).trans rfl

theorem ltableau_openL0 (D : Nat) (hD : 1 ≤ D) (F : Nat) (v0 : List Pl) (v1 : Int) (v2 : Int) (K : AE → AS → Option Res) : ∀ (f : Nat) (v3 : Int) (s : AS), s.keep [0, 1, 7, 8] [] = some ⟨[(0, .vs (v0.length) .unk (enc Pl.cells v0)), (1, .fn (.func 87) [] [.vp [.i .i64 (v1)]]), (7, .i .i64 (v2)), (8, .i .i64 (v3))], [], [(0, tab64)], 2⟩ →
    evLoop (evC (OV F D) 2 F a60L0) f s K = match Ptableau_openL0 v0 v1 v2 f v3 with | none => none | some (.inl y0) => K .ret ⟨[(4, .i .i64 (y0))], [], [(0, tab64)], 2⟩ | some (.inr _) => K (.ex 0) ⟨[], [], [(0, tab64)], 2⟩ := by
  obtain ⟨D, rfl⟩ : ∃ E, D = E + 1 := ⟨D - 1, by omega⟩
  intro f
  induction f with
  | zero => intro v3 s hs; simp only [evLoop, Ptableau_openL0]
  | succ f ih =>
    intro v3 s hs
    obtain ⟨k0, hk, hn, he, hr⟩ := @lk_all (OV F (D + 1)) 2 F a60L0 f K
    rw [loop_succ, hk, a60L0, runC_cut, hs]
    clear hs
    simp only [Ptableau_openL0]
    clear hk
    by_cases h1 : v3 < v2
    rcases h2 : (idx v0 v3) with _ | x1
    replace h2 := pkn h2
    rotate_left
    replace h2 := pk_Pl_cells h2
    by_cases h3 : v1 < (0 : Int)
    rotate_left
    by_cases h4 : ((x1.X >>> v1.toNat) &&& 1#64) = 1#64
    replace h4 := eq_true h4
    rotate_left
    rotate_left
    rotate_left
    all_goals simp -implicitDefEqProofs only [*, -ih, a87, wtableau_open_1, EVA.down, ne_eq, seval]
    all_goals exact ih _ _ (by simp only [*, -ih, a87, wtableau_open_1, EVA.down, ne_eq, seval])

theorem wslices_IndexFunc_Pauli {D F n : Nat} {args : List AV} {h : AHeap} : OV F (D + 1) 60 args h n (n + 1) = match frzs (frz true 0 (bif AV.nors args then [] else h) 8) args with | none => none | some zs => match evFn (OV F D) 2 F a60 zs (hglb h 2) 2 with | none => none | some (v, h', _) => match frz (AV.nors args) 2 h' 8 v with | some v' => some (v', none) | none => none := (evV_frozen rfl).trans rfl

theorem etableau_open (D : Nat) (hD : 2 ≤ D) (F : Nat) (a0_N : Int) (a0_Stab : List Pl) (a0_Destab : List Pl) (a1 : Int) (q : Bool) : evW 2 (OV F D) F a57 (some [.agg [.i .i64 (a0_N), .vs (a0_Stab.length) .unk (enc Pl.cells a0_Stab), .vs (a0_Destab.length) .unk (enc Pl.cells a0_Destab)], .i .i64 (a1)]) q G0 =
    match Ptableau_open F a0_N a0_Stab a0_Destab a1 with | none => none | some r0 => some (.i .i64 (r0), none) := by
  obtain ⟨D, rfl⟩ : ∃ E, D = E + 2 := ⟨D - 2, by omega⟩
  rw [evW_some, G0]
  simp only [Ptableau_open]
  simp -implicitDefEqProofs only [*, a57, a60, wslices_IndexFunc_Pauli, runC_loop, EVA.down, ne_eq, seval]
  rw [ltableau_openL0 (D + 1) (by omega) F a0_Stab a1 (a0_Stab.length : Int) _ F (0 : Int) _ (by simp only [*, a57, a60, wslices_IndexFunc_Pauli, EVA.down, ne_eq, seval]; try rfl)]
  rcases h1 : (Ptableau_openL0 a0_Stab a1 (a0_Stab.length : Int) F (0 : Int)) with _ | (y1 | _)
  rotate_left
  rotate_left
  rotate_left
  all_goals simp -implicitDefEqProofs only [*, a57, a60, wslices_IndexFunc_Pauli, EVA.down, ne_eq, seval]

theorem vtableau_open {D F n : Nat} {args : List AV} {h : AHeap} : OV F (D + 1) 57 args h n (n + 1) = evW 2 (OV F D) F a57 (frzs (frz true 0 (bif AV.nors args then [] else h) 8) args) (AV.nors args) (hglb h 2) := evV_frozen rfl

theorem epauli_pair (D : Nat) (hD : 2 ≤ D) (F : Nat) (a0_N : Int) (a0_X : BitVec 64) (a0_Z : BitVec 64) (a0_Phase : Int) (a1_N : Int) (a1_X : BitVec 64) (a1_Z : BitVec 64) (a1_Phase : Int) (q : Bool) : evW 2 (OV F D) F a44 (some [.agg [.i .i64 (a0_N), .i .u64 (U (a0_X)), .i .u64 (U (a0_Z)), .i .i64 (a0_Phase)], .agg [.i .i64 (a1_N), .i .u64 (U (a1_X)), .i .u64 (U (a1_Z)), .i .i64 (a1_Phase)]]) q G0 =
    some (.b ((Ppauli_pair a0_N a0_X a0_Z a0_Phase a1_N a1_X a1_Z a1_Phase)), none) := by
  obtain ⟨D, rfl⟩ : ∃ E, D = E + 2 := ⟨D - 2, by omega⟩
  have cpauli_right0 := epauli_right (D + 1) (by omega) F
  rw [evW_some, G0]
  simp only [Ppauli_pair]
  rcases h1 : ((Ppauli_right a0_N a0_X a0_Z a0_Phase)) with _ | _
  rotate_left
  rcases h2 : ((Ppauli_right a1_N a1_X a1_Z a1_Phase)) with _ | _
  rotate_left
  rotate_left
  all_goals simp -implicitDefEqProofs only [*, a44, vpauli_right, EVA.down, ne_eq, seval]

theorem vpauli_pair {D F n : Nat} {args : List AV} {h : AHeap} : OV F (D + 1) 44 args h n (n + 1) = evW 2 (OV F D) F a44 (frzs (frz true 0 (bif AV.nors args then [] else h) 8) args) (AV.nors args) (hglb h 2) := evV_frozen rfl

theorem ebits_TrailingZeros64 (D : Nat) (hD : 0 ≤ D) (F : Nat) (a0 : BitVec 64) (q : Bool) : evW 2 (OV F D) F a78 (some [.i .u64 (U (a0))]) q G0 =
    match Pbits_TrailingZeros64 a0 with | none => none | some r0 => some (.i .i64 (r0), none) := by
  have u58 : AV.i .u64 58 = .i .u64 (U 58#64) := id rfl
  have u285870213051353865 : AV.i .u64 285870213051353865 = .i .u64 (U 285870213051353865#64) := id rfl
  obtain ⟨mk, hmk⟩ : ∃ m : BitVec 64 → BitVec 64, ∀ x, x * 285870213051353865#64 = m x := ⟨fun x => x * 285870213051353865#64, fun _ => rfl⟩
  rw [evW_some, G0]
  simp only [Pbits_TrailingZeros64, hmk]
  by_cases h1 : a0 = 0#64
  replace h1 := eq_true h1
  rotate_left
  rcases h2 : (idx zs64 (U ((mk (a0 &&& (-a0))) >>> (58 : Nat)))) with _ | x1
  have h2o := tab_out h2
  rotate_left
  have h2i := tab_inb h2
  have h2r := tab_at h2
  rotate_left
  all_goals simp -implicitDefEqProofs only [*, a78, EVA.down, ne_eq, seval]

theorem vbits_TrailingZeros64 {D F n : Nat} {args : List AV} {h : AHeap} : OV F (D + 1) 78 args h n (n + 1) = evW 2 (OV F D) F a78 (frzs (frz true 0 (bif AV.nors args then [] else h) 8) args) (AV.nors args) (hglb h 2) := evV_frozen rfl

theorem epauli_code (D : Nat) (hD : 0 ≤ D) (F : Nat) (a0_N : Int) (a0_X : BitVec 64) (a0_Z : BitVec 64) (a0_Phase : Int) (a1 : Int) (q : Bool) : evW 2 (OV F D) F a79 (some [.agg [.i .i64 (a0_N), .i .u64 (U (a0_X)), .i .u64 (U (a0_Z)), .i .i64 (a0_Phase)], .i .i64 (a1)]) q G0 =
    match Ppauli_code a0_N a0_X a0_Z a0_Phase a1 with | none => none | some r0 => some (.i .i64 (r0), none) := by
  rw [evW_some, G0]
  simp only [Ppauli_code]
  by_cases h1 : a1 < (0 : Int)
  rotate_left
  rotate_left
  all_goals simp -implicitDefEqProofs only [*, a79, EVA.down, ne_eq, seval]

theorem vpauli_code {D F n : Nat} {args : List AV} {h : AHeap} : OV F (D + 1) 79 args h n (n + 1) = evW 2 (OV F D) F a79 (frzs (frz true 0 (bif AV.nors args then [] else h) 8) args) (AV.nors args) (hglb h 2) := evV_frozen rfl

theorem lpauli_timesL0 (D : Nat) (hD : 1 ≤ D) (F : Nat) (v2 : Int) (v3 : BitVec 64) (v4 : BitVec 64) (v5 : Int) (v6 : Int) (v7 : BitVec 64) (v8 : BitVec 64) (v9 : Int) (v10 : Int) (v11 : BitVec 64) (v12 : BitVec 64) (v13 : Int) (K : AE → AS → Option Res) : ∀ (f : Nat) (v0 : Int) (v1 : BitVec 64) (s : AS), s.keep [2, 3, 4, 5, 6] [2, 3, 4] = some ⟨[(2, .lp 2 0), (3, .lp 3 0), (4, .lp 4 0), (5, .i .i64 (v0)), (6, .i .u64 (U (v1)))], [(2, [.i .i64 (v2), .i .u64 (U (v3)), .i .u64 (U (v4)), .i .i64 (v5)]), (3, [.i .i64 (v6), .i .u64 (U (v7)), .i .u64 (U (v8)), .i .i64 (v9)]), (4, [.i .i64 (v10), .i .u64 (U (v11)), .i .u64 (U (v12)), .i .i64 (v13)])], [(0, tab64)], 2⟩ →
    evLoop (evC (OV F D) 2 F a45L0) f s K = match Ppauli_timesL0 v2 v3 v4 v5 v6 v7 v8 v9 v10 v11 v12 v13 f v0 v1 with | none => none | some (y0) => K (.ex 0) ⟨[(2, .lp 2 0), (3, .lp 3 0), (4, .lp 4 0), (5, .i .i64 (y0))], [(2, [.i .i64 (v2), .i .u64 (U (v3)), .i .u64 (U (v4)), .i .i64 (v5)]), (3, [.i .i64 (v6), .i .u64 (U (v7)), .i .u64 (U (v8)), .i .i64 (v9)]), (4, [.i .i64 (v10), .i .u64 (U (v11)), .i .u64 (U (v12)), .i .i64 (v13)])], [(0, tab64)], 2⟩ := by
  obtain ⟨D, rfl⟩ : ∃ E, D = E + 1 := ⟨D - 1, by omega⟩
  have cbits_TrailingZeros640 := ebits_TrailingZeros64 (D) (by omega) F
  have cpauli_code0 := epauli_code (D) (by omega) F
  intro f
  induction f with
  | zero => intro v0 v1 s hs; simp only [evLoop, Ppauli_timesL0]
  | succ f ih =>
    intro v0 v1 s hs
    obtain ⟨k0, hk, hn, he, hr⟩ := @lk_all (OV F (D + 1)) 2 F a45L0 f K
    rw [loop_succ, hk, a45L0, runC_cut, hs]
    clear hs
    simp only [Ppauli_timesL0]
    clear hk
    by_cases h1 : v1 = 0#64
    replace h1 := eq_true h1
    rotate_left
    rcases h2 : (Pbits_TrailingZeros64 v1) with _ | r1
    rotate_left
    rcases h3 : (Ppauli_code v6 v7 v8 v9 r1) with _ | r2
    rotate_left
    rcases h4 : (Ppauli_code v2 v3 v4 v5 r1) with _ | r3
    rotate_left
    by_cases h5 : ((IntKind.i64.wrap ((IntKind.i64.wrap (r2 - r3)) + (3 : Int))).tmod (3 : Int)) = (1 : Int)
    replace h5 := eq_true h5
    rotate_left
    by_cases h6 : ((IntKind.i64.wrap ((IntKind.i64.wrap (r2 - r3)) + (3 : Int))).tmod (3 : Int)) = (2 : Int)
    replace h6 := eq_true h6
    rotate_left
    rotate_left
    all_goals simp -implicitDefEqProofs only [*, -ih, vbits_TrailingZeros64, vpauli_code, EVA.down, ne_eq, seval]
    all_goals exact ih _ _ _ (by simp only [*, -ih, vbits_TrailingZeros64, vpauli_code, EVA.down, ne_eq, seval])

theorem epauli_times (D : Nat) (hD : 1 ≤ D) (F : Nat) (a0_N : Int) (a0_X : BitVec 64) (a0_Z : BitVec 64) (a0_Phase : Int) (a1_N : Int) (a1_X : BitVec 64) (a1_Z : BitVec 64) (a1_Phase : Int) (q : Bool) : evW 2 (OV F D) F a45 (some [.agg [.i .i64 (a0_N), .i .u64 (U (a0_X)), .i .u64 (U (a0_Z)), .i .i64 (a0_Phase)], .agg [.i .i64 (a1_N), .i .u64 (U (a1_X)), .i .u64 (U (a1_Z)), .i .i64 (a1_Phase)]]) q G0 =
    match Ppauli_times F a0_N a0_X a0_Z a0_Phase a1_N a1_X a1_Z a1_Phase with | none => none | some (r0, r1, r2, r3) => some (.agg [.i .i64 (r0), .i .u64 (U (r1)), .i .u64 (U (r2)), .i .i64 (r3)], none) := by
  obtain ⟨D, rfl⟩ : ∃ E, D = E + 1 := ⟨D - 1, by omega⟩
  rw [evW_some, G0]
  simp only [Ppauli_times]
  simp -implicitDefEqProofs only [*, a45, runC_loop, EVA.down, ne_eq, seval]
  rw [lpauli_timesL0 (D + 1) (by omega) F a0_N a0_X a0_Z a0_Phase a1_N a1_X a1_Z a1_Phase (0 : Int) 0#64 0#64 (0 : Int) _ F (IntKind.i64.wrap (a0_Phase + a1_Phase)) ((a0_X ||| a0_Z) &&& (a1_X ||| a1_Z)) _ (by simp only [*, a45, EVA.down, ne_eq, seval]; try rfl)]
  rcases h1 : (Ppauli_timesL0 a0_N a0_X a0_Z a0_Phase a1_N a1_X a1_Z a1_Phase (0 : Int) 0#64 0#64 (0 : Int) F (IntKind.i64.wrap (a0_Phase + a1_Phase)) ((a0_X ||| a0_Z) &&& (a1_X ||| a1_Z))) with _ | y1
  rotate_left
  rotate_left
  all_goals simp -implicitDefEqProofs only [*, a45, EVA.down, ne_eq, seval]

theorem vpauli_times {D F n : Nat} {args : List AV} {h : AHeap} : OV F (D + 1) 45 args h n (n + 1) = evW 2 (OV F D) F a45 (frzs (frz true 0 (bif AV.nors args then [] else h) 8) args) (AV.nors args) (hglb h 2) := evV_frozen rfl

theorem epauli_Mul (D : Nat) (hD : 3 ≤ D) (F : Nat) (a0_N : Int) (a0_X : BitVec 64) (a0_Z : BitVec 64) (a0_Phase : Int) (a1_N : Int) (a1_X : BitVec 64) (a1_Z : BitVec 64) (a1_Phase : Int) (q : Bool) : evW 2 (OV F D) F a18 (some [.agg [.i .i64 (a0_N), .i .u64 (U (a0_X)), .i .u64 (U (a0_Z)), .i .i64 (a0_Phase)], .agg [.i .i64 (a1_N), .i .u64 (U (a1_X)), .i .u64 (U (a1_Z)), .i .i64 (a1_Phase)]]) q G0 =
    match Ppauli_Mul F a0_N a0_X a0_Z a0_Phase a1_N a1_X a1_Z a1_Phase with | none => none | some (r0, r1, r2, r3, r4) => some (.tup [.agg [.i .i64 (r0), .i .u64 (U (r1)), .i .u64 (U (r2)), .i .i64 (r3)], .i .i64 (r4)], none) := by
  obtain ⟨D, rfl⟩ : ∃ E, D = E + 3 := ⟨D - 3, by omega⟩
  have cpauli_pair0 := epauli_pair (D + 2) (by omega) F
  have cpauli_times0 := epauli_times (D + 2) (by omega) F
  rw [evW_some, G0]
  simp only [Ppauli_Mul]
  rcases h1 : ((Ppauli_pair a0_N a0_X a0_Z a0_Phase a1_N a1_X a1_Z a1_Phase)) with _ | _
  rotate_left
  rcases h2 : (Ppauli_times F a0_N a0_X a0_Z a0_Phase a1_N a1_X a1_Z a1_Phase) with _ | ⟨r1, r2, r3, r4⟩
  rotate_left
  rotate_left
  all_goals simp -implicitDefEqProofs only [*, a18, vpauli_pair, vpauli_times, EVA.down, ne_eq, seval]

theorem vpauli_Mul {D F n : Nat} {args : List AV} {h : AHeap} : OV F (D + 1) 18 args h n (n + 1) = evW 2 (OV F D) F a18 (frzs (frz true 0 (bif AV.nors args then [] else h) 8) args) (AV.nors args) (hglb h 2) := evV_frozen rfl

theorem etableau_mul (D : Nat) (hD : 4 ≤ D) (F : Nat) (a0_N : Int) (a0_X : BitVec 64) (a0_Z : BitVec 64) (a0_Phase : Int) (a1_N : Int) (a1_X : BitVec 64) (a1_Z : BitVec 64) (a1_Phase : Int) (q : Bool) : evW 2 (OV F D) F a86 (some [.agg [.i .i64 (a0_N), .i .u64 (U (a0_X)), .i .u64 (U (a0_Z)), .i .i64 (a0_Phase)], .agg [.i .i64 (a1_N), .i .u64 (U (a1_X)), .i .u64 (U (a1_Z)), .i .i64 (a1_Phase)]]) q G0 =
    match Ptableau_mul F a0_N a0_X a0_Z a0_Phase a1_N a1_X a1_Z a1_Phase with | none => none | some (r0, r1, r2, r3) => some (.agg [.i .i64 (r0), .i .u64 (U (r1)), .i .u64 (U (r2)), .i .i64 (r3)], none) := by
  obtain ⟨D, rfl⟩ : ∃ E, D = E + 4 := ⟨D - 4, by omega⟩
  have cpauli_Mul0 := epauli_Mul (D + 3) (by omega) F
  rw [evW_some, G0]
  simp only [Ptableau_mul]
  rcases h1 : (Ppauli_Mul F a0_N a0_X a0_Z a0_Phase a1_N a1_X a1_Z a1_Phase) with _ | ⟨r1, r2, r3, r4, r5⟩
  rotate_left
  rotate_left
  all_goals simp -implicitDefEqProofs only [*, a86, vpauli_Mul, EVA.down, ne_eq, seval]

theorem vtableau_mul {D F n : Nat} {args : List AV} {h : AHeap} : OV F (D + 1) 86 args h n (n + 1) = evW 2 (OV F D) F a86 (frzs (frz true 0 (bif AV.nors args then [] else h) 8) args) (AV.nors args) (hglb h 2) := evV_frozen rfl

theorem ltableau_sureL0 (D : Nat) (hD : 5 ≤ D) (F : Nat) (v0 : List Pl) (v1 : Int) (v3 : Int) (v4 : List Pl) (v5 : List Pl) (v6 : Int) (v7 : BitVec 64) (v8 : BitVec 64) (v9 : Int) (v10 : Int) (v11 : BitVec 64) (v12 : BitVec 64) (v13 : Int) (K : AE → AS → Option Res) : ∀ (f : Nat) (v2 : Int) (v14 : Int) (v15 : BitVec 64) (v16 : BitVec 64) (v17 : Int) (s : AS), s.keep [2, 3, 4, 5, 12, 13, 14] [2, 3, 4, 5] = some ⟨[(2, .lp 2 0), (3, .lp 3 0), (4, .lp 4 0), (5, .lp 5 0), (12, .vs (v0.length) .unk (enc Pl.cells v0)), (13, .i .i64 (v1)), (14, .i .i64 (v2))], [(2, [.i .i64 (v3), .vs (v4.length) .unk (enc Pl.cells v4), .vs (v5.length) .unk (enc Pl.cells v5)]), (3, [.i .i64 (v6), .i .u64 (U (v7)), .i .u64 (U (v8)), .i .i64 (v9)]), (4, [.i .i64 (v10), .i .u64 (U (v11)), .i .u64 (U (v12)), .i .i64 (v13)]), (5, [.i .i64 (v14), .i .u64 (U (v15)), .i .u64 (U (v16)), .i .i64 (v17)])], [(0, tab64)], 2⟩ →
    evLoop (evC (OV F D) 2 F a58L0) f s K = match Ptableau_sureL0 F v0 v1 v3 v4 v5 v6 v7 v8 v9 v10 v11 v12 v13 f v2 v14 v15 v16 v17 with | none => none | some (y0, y1, y2, y3) => K (.ex 0) ⟨[(4, .lp 4 0), (5, .lp 5 0)], [(4, [.i .i64 (v10), .i .u64 (U (v11)), .i .u64 (U (v12)), .i .i64 (v13)]), (5, [.i .i64 (y0), .i .u64 (U (y1)), .i .u64 (U (y2)), .i .i64 (y3)])], [(0, tab64)], 2⟩ := by
  obtain ⟨D, rfl⟩ : ∃ E, D = E + 5 := ⟨D - 5, by omega⟩
  have ctableau_commute0 := etableau_commute (D + 4) (by omega) F
  have ctableau_mul0 := etableau_mul (D + 4) (by omega) F
  intro f
  induction f with
  | zero => intro v2 v14 v15 v16 v17 s hs; simp only [evLoop, Ptableau_sureL0]
  | succ f ih =>
    intro v2 v14 v15 v16 v17 s hs
    obtain ⟨k0, hk, hn, he, hr⟩ := @lk_all (OV F (D + 5)) 2 F a58L0 f K
    rw [loop_succ, hk, a58L0, runC_cut, hs]
    clear hs
    simp only [Ptableau_sureL0]
    clear hk
    by_cases h1 : v2 < v1
    rcases h2 : (idx v0 v2) with _ | x1
    replace h2 := pkn h2
    rotate_left
    replace h2 := pk_Pl_cells h2
    rcases h3 : ((Ptableau_commute x1.N x1.X x1.Z x1.Ph v6 v7 v8 v9)) with _ | _
    rcases h4 : (idx v4 v2) with _ | x2
    replace h4 := pkn h4
    rotate_left
    replace h4 := pk_Pl_cells h4
    rcases h5 : (Ptableau_mul F v14 v15 v16 v17 x2.N x2.X x2.Z x2.Ph) with _ | ⟨r3, r4, r5, r6⟩
    rotate_left
    rotate_left
    rotate_left
    rotate_left
    all_goals simp -implicitDefEqProofs only [*, -ih, vtableau_commute, vtableau_mul, EVA.down, ne_eq, seval]
    all_goals exact ih _ _ _ _ _ _ (by simp only [*, -ih, vtableau_commute, vtableau_mul, EVA.down, ne_eq, seval])

theorem etableau_sure (D : Nat) (hD : 5 ≤ D) (F : Nat) (a0_N : Int) (a0_Stab : List Pl) (a0_Destab : List Pl) (a1_N : Int) (a1_X : BitVec 64) (a1_Z : BitVec 64) (a1_Phase : Int) (q : Bool) : evW 2 (OV F D) F a58 (some [.agg [.i .i64 (a0_N), .vs (a0_Stab.length) .unk (enc Pl.cells a0_Stab), .vs (a0_Destab.length) .unk (enc Pl.cells a0_Destab)], .agg [.i .i64 (a1_N), .i .u64 (U (a1_X)), .i .u64 (U (a1_Z)), .i .i64 (a1_Phase)]]) q G0 =
    match Ptableau_sure F a0_N a0_Stab a0_Destab a1_N a1_X a1_Z a1_Phase with | none => none | some (r0, r1, r2, r3) => some (.agg [.i .i64 (r0), .i .u64 (U (r1)), .i .u64 (U (r2)), .i .i64 (r3)], none) := by
  obtain ⟨D, rfl⟩ : ∃ E, D = E + 5 := ⟨D - 5, by omega⟩
  rw [evW_some, G0]
  simp only [Ptableau_sure]
  simp -implicitDefEqProofs only [*, a58, runC_loop, EVA.down, ne_eq, seval]
  rw [ltableau_sureL0 (D + 5) (by omega) F a0_Destab (a0_Destab.length : Int) a0_N a0_Stab a0_Destab a1_N a1_X a1_Z a1_Phase (0 : Int) 0#64 0#64 (0 : Int) _ F (0 : Int) a0_N 0#64 0#64 (0 : Int) _ (by simp only [*, a58, EVA.down, ne_eq, seval]; try rfl)]
  rcases h1 : (Ptableau_sureL0 F a0_Destab (a0_Destab.length : Int) a0_N a0_Stab a0_Destab a1_N a1_X a1_Z a1_Phase (0 : Int) 0#64 0#64 (0 : Int) F (0 : Int) a0_N 0#64 0#64 (0 : Int)) with _ | ⟨y1, y2, y3, y4⟩
  rotate_left
  rotate_left
  all_goals simp -implicitDefEqProofs only [*, a58, EVA.down, ne_eq, seval]

theorem vtableau_sure {D F n : Nat} {args : List AV} {h : AHeap} : OV F (D + 1) 58 args h n (n + 1) = evW 2 (OV F D) F a58 (frzs (frz true 0 (bif AV.nors args then [] else h) 8) args) (AV.nors args) (hglb h 2) := evV_frozen rfl

theorem etableau_Odds (D : Nat) (hD : 6 ≤ D) (F : Nat) (a0_N : Int) (a0_Stab : List Pl) (a0_Destab : List Pl) (a1 : Int) (q : Bool) : evW 2 (OV F D) F a23 (some [.agg [.i .i64 (a0_N), .vs (a0_Stab.length) .unk (enc Pl.cells a0_Stab), .vs (a0_Destab.length) .unk (enc Pl.cells a0_Destab)], .i .i64 (a1)]) q G0 =
    match Ptableau_Odds F a0_N a0_Stab a0_Destab a1 with | none => none | some (r0, r1) => some (.tup [.i .i64 (r0), .i .i64 (r1)], none) := by
  obtain ⟨D, rfl⟩ : ∃ E, D = E + 6 := ⟨D - 6, by omega⟩
  have ctableau_asked0 := etableau_asked (D + 5) (by omega) F
  have ctableau_open0 := etableau_open (D + 5) (by omega) F
  have ctableau_sure0 := etableau_sure (D + 5) (by omega) F
  rw [evW_some, G0]
  simp only [Ptableau_Odds]
  rcases h1 : (Ptableau_asked F a0_N a0_Stab a0_Destab a1) with _ | r1
  rotate_left
  by_cases h2 : r1 = (0 : Int)
  replace h2 := eq_true h2
  rcases h3 : (Ptableau_open F a0_N a0_Stab a0_Destab a1) with _ | r2
  rotate_left
  by_cases h4 : r2 ≥ (0 : Int)
  rotate_left
  by_cases h5 : a1 < (0 : Int)
  rotate_left
  rcases h6 : (Ptableau_sure F a0_N a0_Stab a0_Destab a0_N 0#64 (1#64 <<< a1.toNat) (0 : Int)) with _ | ⟨r3, r4, r5, r6⟩
  rotate_left
  rotate_left
  rotate_left
  all_goals simp -implicitDefEqProofs only [*, a23, vtableau_asked, vtableau_open, vtableau_sure, EVA.down, ne_eq, seval]

theorem vtableau_Odds {D F n : Nat} {args : List AV} {h : AHeap} : OV F (D + 1) 23 args h n (n + 1) = evW 2 (OV F D) F a23 (frzs (frz true 0 (bif AV.nors args then [] else h) 8) args) (AV.nors args) (hglb h 2) := evV_frozen rfl

theorem etableau_copied (D : Nat) (hD : 0 ≤ D) (F : Nat) (a0_N : Int) (a0_Stab : List Pl) (a0_Destab : List Pl) (q : Bool) : evW 2 (OV F D) F a49 (some [.agg [.i .i64 (a0_N), .vs (a0_Stab.length) .unk (enc Pl.cells a0_Stab), .vs (a0_Destab.length) .unk (enc Pl.cells a0_Destab)]]) q G0 =
    match Ptableau_copied a0_N a0_Stab a0_Destab with | none => none | some (r0, r1, r2) => some (.agg [.i .i64 (r0), .vs (r1.length) .unk (enc Pl.cells r1), .vs (r2.length) .unk (enc Pl.cells r2)], none) := by
  rw [evW_some, G0]
  simp only [Ptableau_copied]
  by_cases h1 : a0_Stab.length * 32 ≤ 140737488355328
  by_cases h2 : a0_Stab = []
  replace h2 := eq_true h2
  by_cases h3 : a0_Destab.length * 32 ≤ 140737488355328
  by_cases h4 : a0_Destab = []
  replace h4 := eq_true h4
  rotate_left
  rotate_left
  rotate_left
  by_cases h5 : a0_Destab.length * 32 ≤ 140737488355328
  by_cases h6 : a0_Destab = []
  replace h6 := eq_true h6
  rotate_left
  rotate_left
  rotate_left
  rotate_left
  all_goals simp -implicitDefEqProofs only [*, a49, k54, EVA.down, ne_eq, seval]

theorem vtableau_copied {D F n : Nat} {args : List AV} {h : AHeap} : OV F (D + 1) 49 args h n (n + 1) = evW 2 (OV F D) F a49 (frzs (frz true 0 (bif AV.nors args then [] else h) 8) args) (AV.nors args) (hglb h 2) := evV_frozen rfl

theorem etableau_copiedo (D : Nat) (hD : 0 ≤ D) (F : Nat) (a0_N : Int) (a0_Stab : List Pl) (a0_Destab : List Pl) (n : Nat) : evX 2 (OV F D) F a49 (some [.agg [.i .i64 (a0_N), .vs (a0_Stab.length) .unk (enc Pl.cells a0_Stab), .vs (a0_Destab.length) .unk (enc Pl.cells a0_Destab)]]) true G0 n =
    match Ptableau_copied a0_N a0_Stab a0_Destab with | none => none | some (r0, r1, r2) => (match ownS Pl.cells 39 4 (.vs 0 .unk []) r1 n with | (w0, g0, n0) => (match ownS Pl.cells 39 4 (.vs 0 .unk []) r2 n0 with | (w1, g1, n1) => some (.agg [.i .i64 (r0), w0, w1], some (g0 ++ g1, n1)))) := by
  rw [evX_some, G0]
  simp only [Ptableau_copied]
  by_cases h1 : a0_Stab.length * 32 ≤ 140737488355328
  by_cases h2 : a0_Stab = []
  replace h2 := eq_true h2
  by_cases h3 : a0_Destab.length * 32 ≤ 140737488355328
  by_cases h4 : a0_Destab = []
  replace h4 := eq_true h4
  rotate_left
  rotate_left
  rotate_left
  by_cases h5 : a0_Destab.length * 32 ≤ 140737488355328
  by_cases h6 : a0_Destab = []
  replace h6 := eq_true h6
  rotate_left
  rotate_left
  rotate_left
  rotate_left
  all_goals simp -implicitDefEqProofs only [*, a49, k54, EVA.down, ne_eq, seval]

theorem vtableau_copiedo {D F n : Nat} {args : List AV} {h : AHeap} : OV F (D + 1) 49 args h n n = evX 2 (OV F D) F a49 (frzs (frz true 0 (bif AV.nors args then [] else h) 8) args) (AV.nors args) (hglb h 2) n := evV_own rfl

theorem ltableau_replacedL0 (D : Nat) (hD : 5 ≤ D) (F : Nat) (v0 : List Pl) (v1 : List Pl) (v2 : Int) (v4 : Int) (v5 : BitVec 64) (v6 : BitVec 64) (v7 : Int) (v8 : Int) (v9 : Int) (v10 : List Pl) (v11 : List Pl) (K : AE → AS → Option Res) : ∀ (f : Nat) (v3 : Int) (s : AS), s.keep [0, 1, 2, 3, 7, 8, 9] [] = some ⟨[(0, .vs (v0.length) .unk (enc Pl.cells v0)), (1, .p (some (3, 0))), (2, .p (some (4, 0))), (3, .p (some (2, 0))), (7, .vs (v1.length) .unk (enc Pl.cells v1)), (8, .i .i64 (v2)), (9, .i .i64 (v3))], [], [(4, ⟨true, false, 39, 4, [.i .i64 (v4), .i .u64 (U (v5)), .i .u64 (U (v6)), .i .i64 (v7)]⟩), (3, ⟨true, false, 3, 1, [.i .i64 (v8)]⟩), (2, ⟨true, false, 24, 3, [.i .i64 (v9), .vs (v10.length) .unk (enc Pl.cells v10), .vs (v11.length) .unk (enc Pl.cells v11)]⟩), (0, tab64)], 5⟩ →
    evLoop (evC (OV F D) 2 F a88L0) f s K = match Ptableau_replacedL0 F v0 v1 v2 v4 v5 v6 v7 v8 v9 v10 v11 f v3 with | none => none | some (_) => K (.ex 0) ⟨[], [], [(4, ⟨true, false, 39, 4, [.i .i64 (v4), .i .u64 (U (v5)), .i .u64 (U (v6)), .i .i64 (v7)]⟩), (3, ⟨true, false, 3, 1, [.i .i64 (v8)]⟩), (2, ⟨true, false, 24, 3, [.i .i64 (v9), .vs (v10.length) .unk (enc Pl.cells v10), .vs (v11.length) .unk (enc Pl.cells v11)]⟩), (0, tab64)], 5⟩ := by
  obtain ⟨D, rfl⟩ : ∃ E, D = E + 5 := ⟨D - 5, by omega⟩
  have ctableau_commute0 := etableau_commute (D + 4) (by omega) F
  have ctableau_mul0 := etableau_mul (D + 4) (by omega) F
  intro f
  induction f with
  | zero => intro v3 s hs; simp only [evLoop, Ptableau_replacedL0]
  | succ f ih =>
    intro v3 s hs
    obtain ⟨k0, hk, hn, he, hr⟩ := @lk_all (OV F (D + 5)) 2 F a88L0 f K
    rw [loop_succ, hk, a88L0, runC_cut, hs]
    clear hs
    simp only [Ptableau_replacedL0]
    clear hk
    by_cases h1 : v3 < v2
    rcases h2 : (idx v1 v3) with _ | x1
    replace h2 := pkn h2
    rotate_left
    replace h2 := pk_Pl_cells h2
    by_cases h3 : v3 = v8
    replace h3 := eq_true h3
    rotate_left
    rcases h4 : ((Ptableau_commute x1.N x1.X x1.Z x1.Ph v4 v5 v6 v7)) with _ | _
    rcases h5 : (idx v10 v8) with _ | x2
    replace h5 := pkn h5
    rotate_left
    replace h5 := pk_Pl_cells h5
    rcases h6 : (Ptableau_mul F x1.N x1.X x1.Z x1.Ph x2.N x2.X x2.Z x2.Ph) with _ | ⟨r3, r4, r5, r6⟩
    rotate_left
    rcases h7 : (idx v0 v3) with _ | x7
    replace h7 := pkn h7
    rotate_left
    replace h7 := pk_Pl_cells h7
    rotate_left
    rotate_left
    rotate_left
    all_goals simp -implicitDefEqProofs only [*, -ih, vtableau_commute, vtableau_mul, EVA.down, ne_eq, seval]
    all_goals exact ih _ _ (by simp only [*, -ih, vtableau_commute, vtableau_mul, EVA.down, ne_eq, seval])

theorem ltableau_replacedL1 (D : Nat) (hD : 5 ≤ D) (F : Nat) (v0 : List Pl) (v1 : List Pl) (v2 : Int) (v4 : List Pl) (v5 : Int) (v6 : BitVec 64) (v7 : BitVec 64) (v8 : Int) (v9 : Int) (v10 : Int) (v11 : List Pl) (v12 : List Pl) (K : AE → AS → Option Res) : ∀ (f : Nat) (v3 : Int) (s : AS), s.keep [0, 1, 2, 3, 7, 8, 9] [] = some ⟨[(0, .vs (v0.length) .unk (enc Pl.cells v0)), (1, .p (some (3, 0))), (2, .p (some (4, 0))), (3, .p (some (2, 0))), (7, .vs (v1.length) .unk (enc Pl.cells v1)), (8, .i .i64 (v2)), (9, .i .i64 (v3))], [], [(5, ⟨true, true, 39, 4, enc Pl.cells v4⟩), (4, ⟨true, false, 39, 4, [.i .i64 (v5), .i .u64 (U (v6)), .i .u64 (U (v7)), .i .i64 (v8)]⟩), (3, ⟨true, false, 3, 1, [.i .i64 (v9)]⟩), (2, ⟨true, false, 24, 3, [.i .i64 (v10), .vs (v11.length) .unk (enc Pl.cells v11), .vs (v12.length) .unk (enc Pl.cells v12)]⟩), (0, tab64)], 6⟩ →
    evLoop (evC (OV F D) 2 F a88L0) f s K = match Ptableau_replacedL1 F v0 v1 v2 v4 v5 v6 v7 v8 v9 v10 v11 v12 f v3 with | none => none | some (_) => K (.ex 0) ⟨[], [], [(5, ⟨true, true, 39, 4, enc Pl.cells v4⟩), (4, ⟨true, false, 39, 4, [.i .i64 (v5), .i .u64 (U (v6)), .i .u64 (U (v7)), .i .i64 (v8)]⟩), (3, ⟨true, false, 3, 1, [.i .i64 (v9)]⟩), (2, ⟨true, false, 24, 3, [.i .i64 (v10), .vs (v11.length) .unk (enc Pl.cells v11), .vs (v12.length) .unk (enc Pl.cells v12)]⟩), (0, tab64)], 6⟩ := by
  obtain ⟨D, rfl⟩ : ∃ E, D = E + 5 := ⟨D - 5, by omega⟩
  have ctableau_commute0 := etableau_commute (D + 4) (by omega) F
  have ctableau_mul0 := etableau_mul (D + 4) (by omega) F
  intro f
  induction f with
  | zero => intro v3 s hs; simp only [evLoop, Ptableau_replacedL1]
  | succ f ih =>
    intro v3 s hs
    obtain ⟨k0, hk, hn, he, hr⟩ := @lk_all (OV F (D + 5)) 2 F a88L0 f K
    rw [loop_succ, hk, a88L0, runC_cut, hs]
    clear hs
    simp only [Ptableau_replacedL1]
    clear hk
    by_cases h1 : v3 < v2
    rcases h2 : (idx v1 v3) with _ | x1
    replace h2 := pkn h2
    rotate_left
    replace h2 := pk_Pl_cells h2
    by_cases h3 : v3 = v9
    replace h3 := eq_true h3
    rotate_left
    rcases h4 : ((Ptableau_commute x1.N x1.X x1.Z x1.Ph v5 v6 v7 v8)) with _ | _
    rcases h5 : (idx v11 v9) with _ | x2
    replace h5 := pkn h5
    rotate_left
    replace h5 := pk_Pl_cells h5
    rcases h6 : (Ptableau_mul F x1.N x1.X x1.Z x1.Ph x2.N x2.X x2.Z x2.Ph) with _ | ⟨r3, r4, r5, r6⟩
    rotate_left
    rcases h7 : (idx v0 v3) with _ | x7
    replace h7 := pkn h7
    rotate_left
    replace h7 := pk_Pl_cells h7
    rotate_left
    rotate_left
    rotate_left
    all_goals simp -implicitDefEqProofs only [*, -ih, vtableau_commute, vtableau_mul, EVA.down, ne_eq, seval]
    all_goals exact ih _ _ (by simp only [*, -ih, vtableau_commute, vtableau_mul, EVA.down, ne_eq, seval])

theorem ltableau_replacedL2 (D : Nat) (hD : 5 ≤ D) (F : Nat) (v0 : Int) (v3 : Int) (v4 : BitVec 64) (v5 : BitVec 64) (v6 : Int) (v7 : Int) (v8 : Int) (v9 : List Pl) (v10 : List Pl) (K : AE → AS → Option Res) : ∀ (f : Nat) (v1 : Int) (v2 : List Pl) (s : AS), s.keep [0, 1, 2, 3, 7, 8, 9] [] = some ⟨[(0, .sl (some (5, 0)) (v2.length) .op), (1, .p (some (3, 0))), (2, .p (some (4, 0))), (3, .p (some (2, 0))), (7, .sl (some (5, 0)) (v2.length) .op), (8, .i .i64 (v0)), (9, .i .i64 (v1))], [], [(5, ⟨true, true, 39, 4, enc Pl.cells v2⟩), (4, ⟨true, false, 39, 4, [.i .i64 (v3), .i .u64 (U (v4)), .i .u64 (U (v5)), .i .i64 (v6)]⟩), (3, ⟨true, false, 3, 1, [.i .i64 (v7)]⟩), (2, ⟨true, false, 24, 3, [.i .i64 (v8), .vs (v9.length) .unk (enc Pl.cells v9), .vs (v10.length) .unk (enc Pl.cells v10)]⟩), (0, tab64)], 6⟩ →
    evLoop (evC (OV F D) 2 F a88L0) f s K = match Ptableau_replacedL2 F v0 v3 v4 v5 v6 v7 v8 v9 v10 f v1 v2 with | none => none | some (y0) => K (.ex 0) ⟨[], [], [(5, ⟨true, true, 39, 4, enc Pl.cells y0⟩), (4, ⟨true, false, 39, 4, [.i .i64 (v3), .i .u64 (U (v4)), .i .u64 (U (v5)), .i .i64 (v6)]⟩), (3, ⟨true, false, 3, 1, [.i .i64 (v7)]⟩), (2, ⟨true, false, 24, 3, [.i .i64 (v8), .vs (v9.length) .unk (enc Pl.cells v9), .vs (v10.length) .unk (enc Pl.cells v10)]⟩), (0, tab64)], 6⟩ := by
  obtain ⟨D, rfl⟩ : ∃ E, D = E + 5 := ⟨D - 5, by omega⟩
  have ctableau_commute0 := etableau_commute (D + 4) (by omega) F
  have ctableau_mul0 := etableau_mul (D + 4) (by omega) F
  intro f
  induction f with
  | zero => intro v1 v2 s hs; simp only [evLoop, Ptableau_replacedL2]
  | succ f ih =>
    intro v1 v2 s hs
    obtain ⟨k0, hk, hn, he, hr⟩ := @lk_all (OV F (D + 5)) 2 F a88L0 f K
    rw [loop_succ, hk, a88L0, runC_cut, hs]
    clear hs
    simp only [Ptableau_replacedL2]
    clear hk
    by_cases h1 : v1 < v0
    rcases h2 : (idx v2 v1) with _ | x1
    replace h2 := pkn h2
    rotate_left
    replace h2 := pk_Pl_cells h2
    by_cases h3 : v1 = v7
    replace h3 := eq_true h3
    rotate_left
    rcases h4 : ((Ptableau_commute x1.N x1.X x1.Z x1.Ph v3 v4 v5 v6)) with _ | _
    rcases h5 : (idx v9 v7) with _ | x2
    replace h5 := pkn h5
    rotate_left
    replace h5 := pk_Pl_cells h5
    rcases h6 : (Ptableau_mul F x1.N x1.X x1.Z x1.Ph x2.N x2.X x2.Z x2.Ph) with _ | ⟨r3, r4, r5, r6⟩
    rotate_left
    have h7 : v1.toNat * 4 + 4 ≤ v2.length * 4 := by have := (idx_some h2.1).2.1; omega
    have h8 : splice (enc Pl.cells v2) (v1.toNat * 4) [.i .i64 (r3), .i .u64 (U (r4)), .i .u64 (U (r5)), .i .i64 (r6)] = enc Pl.cells ((v2).set v1.toNat (⟨r3, r4, r5, r6⟩ : Pl)) := own_put len_Pl_cells h2.1 (⟨r3, r4, r5, r6⟩ : Pl)
    rotate_left
    rotate_left
    rotate_left
    all_goals simp -implicitDefEqProofs only [*, -ih, vtableau_commute, vtableau_mul, EVA.down, ne_eq, seval]
    all_goals exact ih _ _ _ (by simp only [*, -ih, vtableau_commute, vtableau_mul, EVA.down, ne_eq, seval])

theorem ltableau_replacedL3 (D : Nat) (hD : 5 ≤ D) (F : Nat) (v0 : Int) (v3 : List Pl) (v4 : Int) (v5 : BitVec 64) (v6 : BitVec 64) (v7 : Int) (v8 : Int) (v9 : Int) (v10 : List Pl) (v11 : List Pl) (K : AE → AS → Option Res) : ∀ (f : Nat) (v1 : Int) (v2 : List Pl) (s : AS), s.keep [0, 1, 2, 3, 7, 8, 9] [] = some ⟨[(0, .sl (some (5, 0)) (v2.length) .op), (1, .p (some (3, 0))), (2, .p (some (4, 0))), (3, .p (some (2, 0))), (7, .sl (some (5, 0)) (v2.length) .op), (8, .i .i64 (v0)), (9, .i .i64 (v1))], [], [(5, ⟨true, true, 39, 4, enc Pl.cells v2⟩), (6, ⟨true, true, 39, 4, enc Pl.cells v3⟩), (4, ⟨true, false, 39, 4, [.i .i64 (v4), .i .u64 (U (v5)), .i .u64 (U (v6)), .i .i64 (v7)]⟩), (3, ⟨true, false, 3, 1, [.i .i64 (v8)]⟩), (2, ⟨true, false, 24, 3, [.i .i64 (v9), .vs (v10.length) .unk (enc Pl.cells v10), .vs (v11.length) .unk (enc Pl.cells v11)]⟩), (0, tab64)], 7⟩ →
    evLoop (evC (OV F D) 2 F a88L0) f s K = match Ptableau_replacedL3 F v0 v3 v4 v5 v6 v7 v8 v9 v10 v11 f v1 v2 with | none => none | some (y0) => K (.ex 0) ⟨[], [], [(5, ⟨true, true, 39, 4, enc Pl.cells y0⟩), (6, ⟨true, true, 39, 4, enc Pl.cells v3⟩), (4, ⟨true, false, 39, 4, [.i .i64 (v4), .i .u64 (U (v5)), .i .u64 (U (v6)), .i .i64 (v7)]⟩), (3, ⟨true, false, 3, 1, [.i .i64 (v8)]⟩), (2, ⟨true, false, 24, 3, [.i .i64 (v9), .vs (v10.length) .unk (enc Pl.cells v10), .vs (v11.length) .unk (enc Pl.cells v11)]⟩), (0, tab64)], 7⟩ := by
  obtain ⟨D, rfl⟩ : ∃ E, D = E + 5 := ⟨D - 5, by omega⟩
  have ctableau_commute0 := etableau_commute (D + 4) (by omega) F
  have ctableau_mul0 := etableau_mul (D + 4) (by omega) F
  intro f
  induction f with
  | zero => intro v1 v2 s hs; simp only [evLoop, Ptableau_replacedL3]
  | succ f ih =>
    intro v1 v2 s hs
    obtain ⟨k0, hk, hn, he, hr⟩ := @lk_all (OV F (D + 5)) 2 F a88L0 f K
    rw [loop_succ, hk, a88L0, runC_cut, hs]
    clear hs
    simp only [Ptableau_replacedL3]
    clear hk
    by_cases h1 : v1 < v0
    rcases h2 : (idx v2 v1) with _ | x1
    replace h2 := pkn h2
    rotate_left
    replace h2 := pk_Pl_cells h2
    by_cases h3 : v1 = v8
    replace h3 := eq_true h3
    rotate_left
    rcases h4 : ((Ptableau_commute x1.N x1.X x1.Z x1.Ph v4 v5 v6 v7)) with _ | _
    rcases h5 : (idx v10 v8) with _ | x2
    replace h5 := pkn h5
    rotate_left
    replace h5 := pk_Pl_cells h5
    rcases h6 : (Ptableau_mul F x1.N x1.X x1.Z x1.Ph x2.N x2.X x2.Z x2.Ph) with _ | ⟨r3, r4, r5, r6⟩
    rotate_left
    have h7 : v1.toNat * 4 + 4 ≤ v2.length * 4 := by have := (idx_some h2.1).2.1; omega
    have h8 : splice (enc Pl.cells v2) (v1.toNat * 4) [.i .i64 (r3), .i .u64 (U (r4)), .i .u64 (U (r5)), .i .i64 (r6)] = enc Pl.cells ((v2).set v1.toNat (⟨r3, r4, r5, r6⟩ : Pl)) := own_put len_Pl_cells h2.1 (⟨r3, r4, r5, r6⟩ : Pl)
    rotate_left
    rotate_left
    rotate_left
    all_goals simp -implicitDefEqProofs only [*, -ih, vtableau_commute, vtableau_mul, EVA.down, ne_eq, seval]
    all_goals exact ih _ _ _ (by simp only [*, -ih, vtableau_commute, vtableau_mul, EVA.down, ne_eq, seval])

theorem ltableau_replacedL4 (D : Nat) (hD : 5 ≤ D) (F : Nat) (v0 : Int) (v2 : List Pl) (v4 : Int) (v5 : BitVec 64) (v6 : BitVec 64) (v7 : Int) (v8 : Int) (v9 : Int) (v10 : List Pl) (v11 : List Pl) (K : AE → AS → Option Res) : ∀ (f : Nat) (v1 : Int) (v3 : List Pl) (s : AS), s.keep [0, 1, 2, 3, 7, 8, 9] [] = some ⟨[(0, .sl (some (6, 0)) (v3.length) .op), (1, .p (some (3, 0))), (2, .p (some (4, 0))), (3, .p (some (2, 0))), (7, .sl (some (6, 0)) (v3.length) .op), (8, .i .i64 (v0)), (9, .i .i64 (v1))], [], [(5, ⟨true, true, 39, 4, enc Pl.cells v2⟩), (6, ⟨true, true, 39, 4, enc Pl.cells v3⟩), (4, ⟨true, false, 39, 4, [.i .i64 (v4), .i .u64 (U (v5)), .i .u64 (U (v6)), .i .i64 (v7)]⟩), (3, ⟨true, false, 3, 1, [.i .i64 (v8)]⟩), (2, ⟨true, false, 24, 3, [.i .i64 (v9), .vs (v10.length) .unk (enc Pl.cells v10), .vs (v11.length) .unk (enc Pl.cells v11)]⟩), (0, tab64)], 7⟩ →
    evLoop (evC (OV F D) 2 F a88L0) f s K = match Ptableau_replacedL4 F v0 v2 v4 v5 v6 v7 v8 v9 v10 v11 f v1 v3 with | none => none | some (y0) => K (.ex 0) ⟨[], [], [(5, ⟨true, true, 39, 4, enc Pl.cells v2⟩), (6, ⟨true, true, 39, 4, enc Pl.cells y0⟩), (4, ⟨true, false, 39, 4, [.i .i64 (v4), .i .u64 (U (v5)), .i .u64 (U (v6)), .i .i64 (v7)]⟩), (3, ⟨true, false, 3, 1, [.i .i64 (v8)]⟩), (2, ⟨true, false, 24, 3, [.i .i64 (v9), .vs (v10.length) .unk (enc Pl.cells v10), .vs (v11.length) .unk (enc Pl.cells v11)]⟩), (0, tab64)], 7⟩ := by
  obtain ⟨D, rfl⟩ : ∃ E, D = E + 5 := ⟨D - 5, by omega⟩
  have ctableau_commute0 := etableau_commute (D + 4) (by omega) F
  have ctableau_mul0 := etableau_mul (D + 4) (by omega) F
  intro f
  induction f with
  | zero => intro v1 v3 s hs; simp only [evLoop, Ptableau_replacedL4]
  | succ f ih =>
    intro v1 v3 s hs
    obtain ⟨k0, hk, hn, he, hr⟩ := @lk_all (OV F (D + 5)) 2 F a88L0 f K
    rw [loop_succ, hk, a88L0, runC_cut, hs]
    clear hs
    simp only [Ptableau_replacedL4]
    clear hk
    by_cases h1 : v1 < v0
    rcases h2 : (idx v3 v1) with _ | x1
    replace h2 := pkn h2
    rotate_left
    replace h2 := pk_Pl_cells h2
    by_cases h3 : v1 = v8
    replace h3 := eq_true h3
    rotate_left
    rcases h4 : ((Ptableau_commute x1.N x1.X x1.Z x1.Ph v4 v5 v6 v7)) with _ | _
    rcases h5 : (idx v10 v8) with _ | x2
    replace h5 := pkn h5
    rotate_left
    replace h5 := pk_Pl_cells h5
    rcases h6 : (Ptableau_mul F x1.N x1.X x1.Z x1.Ph x2.N x2.X x2.Z x2.Ph) with _ | ⟨r3, r4, r5, r6⟩
    rotate_left
    have h7 : v1.toNat * 4 + 4 ≤ v3.length * 4 := by have := (idx_some h2.1).2.1; omega
    have h8 : splice (enc Pl.cells v3) (v1.toNat * 4) [.i .i64 (r3), .i .u64 (U (r4)), .i .u64 (U (r5)), .i .i64 (r6)] = enc Pl.cells ((v3).set v1.toNat (⟨r3, r4, r5, r6⟩ : Pl)) := own_put len_Pl_cells h2.1 (⟨r3, r4, r5, r6⟩ : Pl)
    rotate_left
    rotate_left
    rotate_left
    all_goals simp -implicitDefEqProofs only [*, -ih, vtableau_commute, vtableau_mul, EVA.down, ne_eq, seval]
    all_goals exact ih _ _ _ (by simp only [*, -ih, vtableau_commute, vtableau_mul, EVA.down, ne_eq, seval])

theorem xtableau_replaced_1 {D F n fl : Nat} {args : List AV} {h : AHeap} (h1 : fl ≠ n) (h2 : fl ≠ n + 1) : OV F (D + 1) 88 args h n fl = match evFn (OV F D) fl F a88 args h n with | some (v, h', n') => some (v, some (h', n')) | none => none := evV_write rfl rfl h1 h2

theorem etableau_replaced (D : Nat) (hD : 6 ≤ D) (F : Nat) (a0_N : Int) (a0_Stab : List Pl) (a0_Destab : List Pl) (a1 : Int) (a2_N : Int) (a2_X : BitVec 64) (a2_Z : BitVec 64) (a2_Phase : Int) (q : Bool) : evW 2 (OV F D) F a59 (some [.agg [.i .i64 (a0_N), .vs (a0_Stab.length) .unk (enc Pl.cells a0_Stab), .vs (a0_Destab.length) .unk (enc Pl.cells a0_Destab)], .i .i64 (a1), .agg [.i .i64 (a2_N), .i .u64 (U (a2_X)), .i .u64 (U (a2_Z)), .i .i64 (a2_Phase)]]) q G0 =
    match Ptableau_replaced F a0_N a0_Stab a0_Destab a1 a2_N a2_X a2_Z a2_Phase with | none => none | some (r0, r1, r2) => some (.agg [.i .i64 (r0), .vs (r1.length) .unk (enc Pl.cells r1), .vs (r2.length) .unk (enc Pl.cells r2)], none) := by
  obtain ⟨D, rfl⟩ : ∃ E, D = E + 6 := ⟨D - 6, by omega⟩
  have ctableau_copiedo0 := etableau_copiedo (D + 5) (by omega) F
  rw [evW_some, G0]
  simp only [Ptableau_replaced]
  rcases h1 : (Ptableau_copied a0_N a0_Stab a0_Destab) with _ | ⟨r1, r2, r3⟩
  rotate_left
  by_cases h2 : r2 = []
  replace h2 := eq_true h2
  by_cases h3 : r3 = []
  replace h3 := eq_true h3
  simp -implicitDefEqProofs only [*, a59, vtableau_copiedo, a88, xtableau_replaced_1, runC_loop, EVA.down, ne_eq, seval]
  rw [ltableau_replacedL0 (D + 5) (by omega) F ([]) ([]) (0 : Int) a2_N a2_X a2_Z a2_Phase a1 a0_N a0_Stab a0_Destab _ F (0 : Int) _ (by simp only [*, a59, vtableau_copiedo, a88, xtableau_replaced_1, EVA.down, ne_eq, seval]; try rfl)]
  rcases h4 : (Ptableau_replacedL0 F ([]) ([]) (0 : Int) a2_N a2_X a2_Z a2_Phase a1 a0_N a0_Stab a0_Destab F (0 : Int)) with _ | _
  rotate_left
  simp -implicitDefEqProofs only [*, a59, vtableau_copiedo, a88, xtableau_replaced_1, runC_loop, EVA.down, ne_eq, seval]
  rw [ltableau_replacedL0 (D + 5) (by omega) F ([]) ([]) (0 : Int) a2_N a2_X a2_Z a2_Phase a1 a0_N a0_Stab a0_Destab _ F (0 : Int) _ (by simp only [*, a59, vtableau_copiedo, a88, xtableau_replaced_1, EVA.down, ne_eq, seval]; try rfl)]
  rw [h4]
  rcases h6 : (idx a0_Stab a1) with _ | x4
  replace h6 := pkn h6
  rotate_left
  replace h6 := pk_Pl_cells h6
  have h7 : inb a1 0 = false := by simp only [inb, Bool.and_eq_false_iff, decide_eq_false_iff_not]; omega
  rotate_left
  simp -implicitDefEqProofs only [*, a59, vtableau_copiedo, a88, xtableau_replaced_1, runC_loop, EVA.down, ne_eq, seval]
  rw [ltableau_replacedL1 (D + 5) (by omega) F ([]) ([]) (0 : Int) r3 a2_N a2_X a2_Z a2_Phase a1 a0_N a0_Stab a0_Destab _ F (0 : Int) _ (by simp only [*, a59, vtableau_copiedo, a88, xtableau_replaced_1, EVA.down, ne_eq, seval]; try rfl)]
  rcases h8 : (Ptableau_replacedL1 F ([]) ([]) (0 : Int) r3 a2_N a2_X a2_Z a2_Phase a1 a0_N a0_Stab a0_Destab F (0 : Int)) with _ | _
  rotate_left
  simp -implicitDefEqProofs only [*, a59, vtableau_copiedo, a88, xtableau_replaced_1, runC_loop, EVA.down, ne_eq, seval]
  rw [ltableau_replacedL2 (D + 5) (by omega) F ((r3.length : Nat) : Int) a2_N a2_X a2_Z a2_Phase a1 a0_N a0_Stab a0_Destab _ F (0 : Int) r3 _ (by simp only [*, a59, vtableau_copiedo, a88, xtableau_replaced_1, EVA.down, ne_eq, seval]; try rfl)]
  rcases h9 : (Ptableau_replacedL2 F ((r3.length : Nat) : Int) a2_N a2_X a2_Z a2_Phase a1 a0_N a0_Stab a0_Destab F (0 : Int) r3) with _ | y5
  rotate_left
  have h9l0 : y5.length = r3.length := by have q := ltableau_replacedL2n0_0 F ((r3.length : Nat) : Int) a2_N a2_X a2_Z a2_Phase a1 a0_N a0_Stab a0_Destab F (0 : Int) r3 y5 h9; simpa only [List.length_set] using q
  have h9t0 := len_facts h9l0
  rcases h10 : (idx a0_Stab a1) with _ | x6
  replace h10 := pkn h10
  rotate_left
  replace h10 := pk_Pl_cells h10
  rcases h11 : (idx y5 a1) with _ | x7
  have h11o : inb a1 r3.length = false := by have q := idx_out h11; simpa only [List.length_set, h9l0] using q
  first | exact absurd (show inb a1 r3.length = true by simp only [*, -h11o]) (by rw [h11o]; exact Bool.false_ne_true) | rotate_left
  have h11i : inb a1 r3.length = true := by have q := idx_inb h11; simpa only [List.length_set, h9l0] using q
  replace h11 := pk_Pl_cells h11
  have h12 : a1.toNat * 4 + 4 ≤ r3.length * 4 := by have := (idx_some h11.1).2.1; (try simp only [List.length_set] at this); omega
  have h13 : splice (enc Pl.cells y5) (a1.toNat * 4) [.i .i64 (x6.N), .i .u64 (U (x6.X)), .i .u64 (U (x6.Z)), .i .i64 (x6.Ph)] = enc Pl.cells ((y5).set a1.toNat x6) := own_put len_Pl_cells h11.1 x6
  have h14 : inb a1 0 = false := by simp only [inb, Bool.and_eq_false_iff, decide_eq_false_iff_not]; omega
  rotate_left
  by_cases h15 : r3 = []
  replace h15 := eq_true h15
  simp -implicitDefEqProofs only [*, a59, vtableau_copiedo, a88, xtableau_replaced_1, runC_loop, EVA.down, ne_eq, seval]
  rw [ltableau_replacedL2 (D + 5) (by omega) F ((r2.length : Nat) : Int) a2_N a2_X a2_Z a2_Phase a1 a0_N a0_Stab a0_Destab _ F (0 : Int) r2 _ (by simp only [*, a59, vtableau_copiedo, a88, xtableau_replaced_1, EVA.down, ne_eq, seval]; try rfl)]
  rcases h16 : (Ptableau_replacedL2 F ((r2.length : Nat) : Int) a2_N a2_X a2_Z a2_Phase a1 a0_N a0_Stab a0_Destab F (0 : Int) r2) with _ | y8
  rotate_left
  have h16l0 : y8.length = r2.length := by have q := ltableau_replacedL2n0_0 F ((r2.length : Nat) : Int) a2_N a2_X a2_Z a2_Phase a1 a0_N a0_Stab a0_Destab F (0 : Int) r2 y8 h16; simpa only [List.length_set] using q
  have h16t0 := len_facts h16l0
  simp -implicitDefEqProofs only [*, a59, vtableau_copiedo, a88, xtableau_replaced_1, runC_loop, EVA.down, ne_eq, seval]
  rw [ltableau_replacedL1 (D + 5) (by omega) F ([]) ([]) (0 : Int) y8 a2_N a2_X a2_Z a2_Phase a1 a0_N a0_Stab a0_Destab _ F (0 : Int) _ (by simp only [*, a59, vtableau_copiedo, a88, xtableau_replaced_1, EVA.down, ne_eq, seval]; try rfl)]
  rcases h17 : (Ptableau_replacedL1 F ([]) ([]) (0 : Int) y8 a2_N a2_X a2_Z a2_Phase a1 a0_N a0_Stab a0_Destab F (0 : Int)) with _ | _
  rotate_left
  rcases h18 : (idx a0_Stab a1) with _ | x9
  replace h18 := pkn h18
  rotate_left
  replace h18 := pk_Pl_cells h18
  have h19 : inb a1 0 = false := by simp only [inb, Bool.and_eq_false_iff, decide_eq_false_iff_not]; omega
  rotate_left
  simp -implicitDefEqProofs only [*, a59, vtableau_copiedo, a88, xtableau_replaced_1, runC_loop, EVA.down, ne_eq, seval]
  rw [ltableau_replacedL3 (D + 5) (by omega) F ((r2.length : Nat) : Int) r3 a2_N a2_X a2_Z a2_Phase a1 a0_N a0_Stab a0_Destab _ F (0 : Int) r2 _ (by simp only [*, a59, vtableau_copiedo, a88, xtableau_replaced_1, EVA.down, ne_eq, seval]; try rfl)]
  rcases h20 : (Ptableau_replacedL3 F ((r2.length : Nat) : Int) r3 a2_N a2_X a2_Z a2_Phase a1 a0_N a0_Stab a0_Destab F (0 : Int) r2) with _ | y10
  rotate_left
  have h20l0 : y10.length = r2.length := by have q := ltableau_replacedL3n0_0 F ((r2.length : Nat) : Int) r3 a2_N a2_X a2_Z a2_Phase a1 a0_N a0_Stab a0_Destab F (0 : Int) r2 y10 h20; simpa only [List.length_set] using q
  have h20t0 := len_facts h20l0
  simp -implicitDefEqProofs only [*, a59, vtableau_copiedo, a88, xtableau_replaced_1, runC_loop, EVA.down, ne_eq, seval]
  rw [ltableau_replacedL4 (D + 5) (by omega) F ((r3.length : Nat) : Int) y10 a2_N a2_X a2_Z a2_Phase a1 a0_N a0_Stab a0_Destab _ F (0 : Int) r3 _ (by simp only [*, a59, vtableau_copiedo, a88, xtableau_replaced_1, EVA.down, ne_eq, seval]; try rfl)]
  rcases h21 : (Ptableau_replacedL4 F ((r3.length : Nat) : Int) y10 a2_N a2_X a2_Z a2_Phase a1 a0_N a0_Stab a0_Destab F (0 : Int) r3) with _ | y11
  rotate_left
  have h21l0 : y11.length = r3.length := by have q := ltableau_replacedL4n0_0 F ((r3.length : Nat) : Int) y10 a2_N a2_X a2_Z a2_Phase a1 a0_N a0_Stab a0_Destab F (0 : Int) r3 y11 h21; simpa only [List.length_set, h20l0] using q
  have h21t0 := len_facts h21l0
  rcases h22 : (idx a0_Stab a1) with _ | x12
  replace h22 := pkn h22
  rotate_left
  replace h22 := pk_Pl_cells h22
  rcases h23 : (idx y11 a1) with _ | x13
  have h23o : inb a1 r3.length = false := by have q := idx_out h23; simpa only [List.length_set, h20l0, h21l0] using q
  first | exact absurd (show inb a1 r3.length = true by simp only [*, -h23o]) (by rw [h23o]; exact Bool.false_ne_true) | rotate_left
  have h23i : inb a1 r3.length = true := by have q := idx_inb h23; simpa only [List.length_set, h20l0, h21l0] using q
  replace h23 := pk_Pl_cells h23
  have h24 : a1.toNat * 4 + 4 ≤ r3.length * 4 := by have := (idx_some h23.1).2.1; (try simp only [List.length_set] at this); omega
  have h25 : splice (enc Pl.cells y11) (a1.toNat * 4) [.i .i64 (x12.N), .i .u64 (U (x12.X)), .i .u64 (U (x12.Z)), .i .i64 (x12.Ph)] = enc Pl.cells ((y11).set a1.toNat x12) := own_put len_Pl_cells h23.1 x12
  rcases h26 : (idx y10 a1) with _ | x14
  have h26o : inb a1 r2.length = false := by have q := idx_out h26; simpa only [List.length_set, h20l0, h21l0] using q
  first | exact absurd (show inb a1 r2.length = true by simp only [*, -h26o]) (by rw [h26o]; exact Bool.false_ne_true) | rotate_left
  have h26i : inb a1 r2.length = true := by have q := idx_inb h26; simpa only [List.length_set, h20l0, h21l0] using q
  replace h26 := pk_Pl_cells h26
  have h27 : a1.toNat * 4 + 4 ≤ r2.length * 4 := by have := (idx_some h26.1).2.1; (try simp only [List.length_set] at this); omega
  have h28 : splice (enc Pl.cells y10) (a1.toNat * 4) [.i .i64 (a2_N), .i .u64 (U (a2_X)), .i .u64 (U (a2_Z)), .i .i64 (a2_Phase)] = enc Pl.cells ((y10).set a1.toNat (⟨a2_N, a2_X, a2_Z, a2_Phase⟩ : Pl)) := own_put len_Pl_cells h26.1 (⟨a2_N, a2_X, a2_Z, a2_Phase⟩ : Pl)
  rotate_left
  all_goals simp -implicitDefEqProofs only [*, a59, vtableau_copiedo, a88, xtableau_replaced_1, EVA.down, ne_eq, seval]

theorem vtableau_replaced {D F n : Nat} {args : List AV} {h : AHeap} : OV F (D + 1) 59 args h n (n + 1) = evW 2 (OV F D) F a59 (frzs (frz true 0 (bif AV.nors args then [] else h) 8) args) (AV.nors args) (hglb h 2) := evV_frozen rfl

theorem etableau_Project (D : Nat) (hD : 7 ≤ D) (F : Nat) (a0_N : Int) (a0_Stab : List Pl) (a0_Destab : List Pl) (a1 : Int) (a2 : Int) : evW 2 (OV F D) F a24 (some [.agg [.i .i64 (a0_N), .vs (a0_Stab.length) .unk (enc Pl.cells a0_Stab), .vs (a0_Destab.length) .unk (enc Pl.cells a0_Destab)], .i .i64 (a1), .i .i64 (a2)]) true G0 =
    match Ptableau_Project F a0_N a0_Stab a0_Destab a1 a2 with | none => none | some (r0, r1, r2, r3) => some (.tup [.agg [.i .i64 (r0), .vs (r1.length) .unk (enc Pl.cells r1), .vs (r2.length) .unk (enc Pl.cells r2)], .i .i64 (r3)], none) := by
  obtain ⟨D, rfl⟩ : ∃ E, D = E + 7 := ⟨D - 7, by omega⟩
  have ctableau_Odds0 := etableau_Odds (D + 6) (by omega) F
  have ctableau_copied0 := etableau_copied (D + 6) (by omega) F
  have ctableau_open0 := etableau_open (D + 6) (by omega) F
  have ctableau_replaced0 := etableau_replaced (D + 6) (by omega) F
  rw [evW_some, G0]
  simp only [Ptableau_Project]
  rcases h1 : (Ptableau_Odds F a0_N a0_Stab a0_Destab a1) with _ | ⟨r1, r2⟩
  rotate_left
  by_cases h2 : r2 = (0 : Int)
  replace h2 := eq_true h2
  by_cases h3 : a2 = (0 : Int)
  replace h3 := eq_true h3
  by_cases h4 : r1 = (IntKind.i64.wrap ((1 : Int) - a2))
  replace h4 := eq_true h4
  rotate_left
  by_cases h5 : r1 = a2
  replace h5 := eq_true h5
  rcases h6 : (Ptableau_copied a0_N a0_Stab a0_Destab) with _ | ⟨r3, r4, r5⟩
  rotate_left
  rotate_left
  rcases h7 : (Ptableau_open F a0_N a0_Stab a0_Destab a1) with _ | r6
  rotate_left
  by_cases h8 : a1 < (0 : Int)
  rotate_left
  rcases h9 : (Ptableau_replaced F a0_N a0_Stab a0_Destab r6 a0_N 0#64 (1#64 <<< a1.toNat) (IntKind.i64.wrap ((2 : Int) * a2))) with _ | ⟨r7, r8, r9⟩
  rotate_left
  rotate_left
  by_cases h10 : a2 = (1 : Int)
  replace h10 := eq_true h10
  by_cases h11 : r1 = (IntKind.i64.wrap ((1 : Int) - a2))
  replace h11 := eq_true h11
  rotate_left
  by_cases h12 : r1 = a2
  replace h12 := eq_true h12
  rcases h13 : (Ptableau_copied a0_N a0_Stab a0_Destab) with _ | ⟨r10, r11, r12⟩
  rotate_left
  rotate_left
  rcases h14 : (Ptableau_open F a0_N a0_Stab a0_Destab a1) with _ | r13
  rotate_left
  by_cases h15 : a1 < (0 : Int)
  rotate_left
  rcases h16 : (Ptableau_replaced F a0_N a0_Stab a0_Destab r13 a0_N 0#64 (1#64 <<< a1.toNat) (IntKind.i64.wrap ((2 : Int) * a2))) with _ | ⟨r14, r15, r16⟩
  rotate_left
  rotate_left
  rotate_left
  rotate_left
  all_goals simp -implicitDefEqProofs only [*, a24, vtableau_Odds, vtableau_copied, vtableau_open, vtableau_replaced, EVA.down, ne_eq, seval]

theorem vtableau_Project {D F n : Nat} {args : List AV} {h : AHeap} : OV F (D + 1) 24 args h n (n + 1) = evW 2 (OV F D) F a24 (frzs (frz true 0 (bif AV.nors args then [] else h) 8) args) (AV.nors args) (hglb h 2) := evV_frozen rfl

theorem elaw14_num (D : Nat) (hD : 0 ≤ D) (F : Nat) (a0 : Int) (q : Bool) : evW 2 (OV F D) F a13 (some [.i .i64 (a0)]) q G0 =
    some (.i .i64 ((Plaw14_num a0)), none) := by
  rw [evW_some, G0]
  skip
  rotate_left
  all_goals simp -implicitDefEqProofs (maxSteps := 4000000) only [*, a13, Plaw14_num, EVA.down, ne_eq, seval]

theorem vlaw14_num {D F n : Nat} {args : List AV} {h : AHeap} : OV F (D + 1) 13 args h n (n + 1) = evW 2 (OV F D) F a13 (frzs (frz true 0 (bif AV.nors args then [] else h) 8) args) (AV.nors args) (hglb h 2) := evV_frozen rfl

theorem lref14_SameRowsL0 (D : Nat) (hD : 0 ≤ D) (F : Nat) (v0 : List Pl) (v1 : List Pl) (K : AE → AS → Option Res) : ∀ (f : Nat) (v2 : Int) (s : AS), s.keep [0, 1, 5] [] = some ⟨[(0, .vs (v0.length) .unk (enc Pl.cells v0)), (1, .vs (v1.length) .unk (enc Pl.cells v1)), (5, .i .i64 (v2))], [], [(0, tab64)], 2⟩ →
    evLoop (evC (OV F D) 2 F a41L0) f s K = match Pref14_SameRowsL0 v0 v1 f v2 with | none => none | some (.inl _) => K .ret ⟨[(4, .b (false))], [], [(0, tab64)], 2⟩ | some (.inr _) => K (.ex 0) ⟨[], [], [(0, tab64)], 2⟩ := by
  intro f
  induction f with
  | zero => intro v2 s hs; simp only [evLoop, Pref14_SameRowsL0]
  | succ f ih =>
    intro v2 s hs
    obtain ⟨k0, hk, hn, he, hr⟩ := @lk_all (OV F (D)) 2 F a41L0 f K
    rw [loop_succ, hk, a41L0, runC_cut, hs]
    clear hs
    simp only [Pref14_SameRowsL0]
    clear hk
    by_cases h1 : v2 < (v0.length : Int)
    rcases h2 : (idx v0 v2) with _ | x1
    replace h2 := pkn h2
    rotate_left
    replace h2 := pk_Pl_cells h2
    rcases h3 : (idx v1 v2) with _ | x2
    replace h3 := pkn h3
    rotate_left
    replace h3 := pk_Pl_cells h3
    rcases h4 : ((decide (x1.N = x2.N) && (decide (x1.X = x2.X) && (decide (x1.Z = x2.Z) && decide (x1.Ph = x2.Ph))))) with _ | _
    rotate_left
    rotate_left
    rotate_left
    all_goals simp -implicitDefEqProofs only [*, -ih, EVA.down, ne_eq, seval]
    all_goals exact ih _ _ (by simp only [*, -ih, EVA.down, ne_eq, seval])

theorem eref14_SameRows (D : Nat) (hD : 0 ≤ D) (F : Nat) (a0 : List Pl) (a1 : List Pl) (q : Bool) : evW 2 (OV F D) F a41 (some [.vs (a0.length) .unk (enc Pl.cells a0), .vs (a1.length) .unk (enc Pl.cells a1)]) q G0 =
    match Pref14_SameRows F a0 a1 with | none => none | some r0 => some (.b (r0), none) := by
  rw [evW_some, G0]
  simp only [Pref14_SameRows]
  by_cases h1 : (a0.length : Int) = (a1.length : Int)
  replace h1 := eq_true h1
  simp -implicitDefEqProofs only [*, a41, runC_loop, EVA.down, ne_eq, seval]
  rw [lref14_SameRowsL0 (D) (by omega) F a0 a1 _ F (0 : Int) _ (by simp only [*, a41, EVA.down, ne_eq, seval]; try rfl)]
  rcases h2 : (Pref14_SameRowsL0 a0 a1 F (0 : Int)) with _ | (_ | _)
  rotate_left
  rotate_left
  rotate_left
  rotate_left
  all_goals simp -implicitDefEqProofs only [*, a41, EVA.down, ne_eq, seval]

theorem vref14_SameRows {D F n : Nat} {args : List AV} {h : AHeap} : OV F (D + 1) 41 args h n (n + 1) = evW 2 (OV F D) F a41 (frzs (frz true 0 (bif AV.nors args then [] else h) 8) args) (AV.nors args) (hglb h 2) := evV_frozen rfl

theorem eref14_Alike (D : Nat) (hD : 1 ≤ D) (F : Nat) (a0_N : Int) (a0_Stab : List Pl) (a0_Destab : List Pl) (a1_N : Int) (a1_Stab : List Pl) (a1_Destab : List Pl) (q : Bool) : evW 2 (OV F D) F a15 (some [.agg [.i .i64 (a0_N), .vs (a0_Stab.length) .unk (enc Pl.cells a0_Stab), .vs (a0_Destab.length) .unk (enc Pl.cells a0_Destab)], .agg [.i .i64 (a1_N), .vs (a1_Stab.length) .unk (enc Pl.cells a1_Stab), .vs (a1_Destab.length) .unk (enc Pl.cells a1_Destab)]]) q G0 =
    match Pref14_Alike F a0_N a0_Stab a0_Destab a1_N a1_Stab a1_Destab with | none => none | some r0 => some (.b (r0), none) := by
  obtain ⟨D, rfl⟩ : ∃ E, D = E + 1 := ⟨D - 1, by omega⟩
  have cref14_SameRows0 := eref14_SameRows (D) (by omega) F
  rw [evW_some, G0]
  simp only [Pref14_Alike]
  by_cases h1 : a0_N = a1_N
  replace h1 := eq_true h1
  rcases h2 : (Pref14_SameRows F a0_Stab a1_Stab) with _ | r1
  rotate_left
  rcases h3 : (r1) with _ | _
  rotate_left
  rcases h4 : (Pref14_SameRows F a0_Destab a1_Destab) with _ | r2
  rotate_left
  rotate_left
  rotate_left
  all_goals simp -implicitDefEqProofs only [*, a15, vref14_SameRows, EVA.down, ne_eq, seval]

theorem vref14_Alike {D F n : Nat} {args : List AV} {h : AHeap} : OV F (D + 1) 15 args h n (n + 1) = evW 2 (OV F D) F a15 (frzs (frz true 0 (bif AV.nors args then [] else h) 8) args) (AV.nors args) (hglb h 2) := evV_frozen rfl
end Go.Proofs.YtogkkamlmklpkaaDoor.Ab
