/- Functions of the program as plain functions, and that the abstract machine's evaluation comes to them. Written by G.py. No condition. -/
import Derived.Test.YtogkkamlmklpkaaDoorHd
set_option maxRecDepth 100000
set_option maxHeartbeats 4000000
set_option linter.unusedVariables false
set_option linter.unusedSimpArgs false
namespace Go.Proofs.YtogkkamlmklpkaaDoor.Ab
open Go
theorem len_Pl_cells : ∀ x, (Pl.cells x).length = 4 := fun _ => rfl
theorem nors_Pl_cells (x : Pl) : AV.nors (Pl.cells x) = true := by simp only [Pl.cells, AV.nors, AV.nor, Bool.and_self]
theorem one_Pl_cells (x : Pl) : (Pl.cells x).all AV.one = true := by simp only [Pl.cells, List.all_cons, List.all_nil, AV.one, Bool.and_self]
theorem flat_Pl_cells (x : Pl) : (Pl.cells x).all AV.flat1 = true := by simp only [Pl.cells, List.all_cons, List.all_nil, AV.flat1, Bool.and_self]
theorem encnors_Pl_cells (l : List Pl) : AV.nors (enc Pl.cells l) = true := enc_nors nors_Pl_cells l
theorem enclen_Pl_cells (l : List Pl) : (enc Pl.cells l).length = l.length * 4 := enc_len len_Pl_cells l
theorem encone_Pl_cells (l : List Pl) : (enc Pl.cells l).all AV.one = true := enc_all one_Pl_cells l
theorem encall_Pl_cells (l : List Pl) : (enc Pl.cells l).all AV.flat1 = true := enc_all flat_Pl_cells l
theorem flatt_Pl_cells (x : Pl) : (Pl.cells x).all AV.flat2 = true := by simp only [Pl.cells, List.all_cons, List.all_nil, AV.flat2, Bool.and_self]
theorem encflat_Pl_cells {q : Bool} {b : Nat} {h : AHeap} {f : Nat} (l : List Pl) : frzs (frz q b h (f + 1)) (enc Pl.cells l) = some (enc Pl.cells l) := frzs_flat2 (enc_all flatt_Pl_cells l)
theorem enctake_Pl_cells (l : List Pl) : (enc Pl.cells l).take (l.length * 4) = enc Pl.cells l := by simpa only [Nat.mul_one] using enc_take len_Pl_cells l
theorem encids_Pl_cells {b : Nat} {l : List Nat} (m : List Pl) : AV.idss b (enc Pl.cells m) l = l := idss_nors (encnors_Pl_cells m)
theorem encren_Pl_cells {b c : Nat} {l : List Nat} (m : List Pl) : AV.rens b c l (enc Pl.cells m) = some (enc Pl.cells m) := rens_id (encnors_Pl_cells m)
theorem encold_Pl_cells {b : Nat} (m : List Pl) : AV.olds b (enc Pl.cells m) = true := olds_nors (encnors_Pl_cells m)
theorem encpart_Pl_cells (l : List Pl) (k : Nat) : (enc Pl.cells l).take (k * 4) = enc Pl.cells (l.take k) := by simpa only [Nat.mul_one] using enc_takew len_Pl_cells l k
theorem encdrop_Pl_cells (l : List Pl) (k : Nat) : (enc Pl.cells l).drop (k * 4) = enc Pl.cells (l.drop k) := by simpa only [Nat.mul_one] using enc_dropw len_Pl_cells l k
theorem pk_Pl_cells {l : List Pl} {j : Int} {x : Pl} (h : idx l j = some x) : idx l j = some x ∧ inb j l.length = true ∧ apart_ ((enc Pl.cells l).drop (j.toNat * 4)) 0 (some 4) = some (.agg (Pl.cells x)) ∧ apart_ ((enc Pl.cells l).drop (j.toNat * 4)) 0 none = (Pl.cells x)[0]? ∧ apart_ (((enc Pl.cells l).drop (j.toNat * 4)).drop 1) 0 none = (Pl.cells x)[1]? ∧ apart_ (((enc Pl.cells l).drop (j.toNat * 4)).drop 2) 0 none = (Pl.cells x)[2]? ∧ apart_ (((enc Pl.cells l).drop (j.toNat * 4)).drop 3) 0 none = (Pl.cells x)[3]? ∧ apart_ (enc Pl.cells l) (j.toNat * 4) (some 4) = some (.agg (Pl.cells x)) ∧ apart_ (enc Pl.cells l) (j.toNat * 4) none = (Pl.cells x)[0]? ∧ apart_ (enc Pl.cells l) (j.toNat * 4 + 1) none = (Pl.cells x)[1]? ∧ apart_ (enc Pl.cells l) (j.toNat * 4 + 2) none = (Pl.cells x)[2]? ∧ apart_ (enc Pl.cells l) (j.toNat * 4 + 3) none = (Pl.cells x)[3]? := ⟨h, idx_inb h, vp_row len_Pl_cells h, vp_cell0 len_Pl_cells h (by decide), vp_cell (k := 1) len_Pl_cells h (by decide), vp_cell (k := 2) len_Pl_cells h (by decide), vp_cell (k := 3) len_Pl_cells h (by decide), own_row len_Pl_cells h, own_cell0 len_Pl_cells h (by decide), own_cell (k := 1) len_Pl_cells h (by decide), own_cell (k := 2) len_Pl_cells h (by decide), own_cell (k := 3) len_Pl_cells h (by decide)⟩
def c3 (x : Int) : List AV := [.i .i64 (x)]
theorem len_c3 : ∀ x, (c3 x).length = 1 := fun _ => rfl
theorem nors_c3 (x : Int) : AV.nors (c3 x) = true := by simp only [c3, AV.nors, AV.nor, Bool.and_self, encnors_Pl_cells]
theorem one_c3 (x : Int) : (c3 x).all AV.one = true := by simp only [c3, List.all_cons, List.all_nil, AV.one, Bool.and_self]
theorem flat_c3 (x : Int) : (c3 x).all AV.flat1 = true := by simp only [c3, List.all_cons, List.all_nil, AV.flat1, Bool.and_self]
theorem encnors_c3 (l : List Int) : AV.nors (enc c3 l) = true := enc_nors nors_c3 l
theorem enclen_c3 (l : List Int) : (enc c3 l).length = l.length * 1 := enc_len len_c3 l
theorem encone_c3 (l : List Int) : (enc c3 l).all AV.one = true := enc_all one_c3 l
theorem encall_c3 (l : List Int) : (enc c3 l).all AV.flat1 = true := enc_all flat_c3 l
theorem flatt_c3 (x : Int) : (c3 x).all AV.flat2 = true := by simp only [c3, List.all_cons, List.all_nil, AV.flat2, Bool.and_self]
theorem encflat_c3 {q : Bool} {b : Nat} {h : AHeap} {f : Nat} (l : List Int) : frzs (frz q b h (f + 1)) (enc c3 l) = some (enc c3 l) := frzs_flat2 (enc_all flatt_c3 l)
theorem enctake_c3 (l : List Int) : (enc c3 l).take l.length = enc c3 l := by simpa only [Nat.mul_one] using enc_take len_c3 l
theorem encids_c3 {b : Nat} {l : List Nat} (m : List Int) : AV.idss b (enc c3 m) l = l := idss_nors (encnors_c3 m)
theorem encren_c3 {b c : Nat} {l : List Nat} (m : List Int) : AV.rens b c l (enc c3 m) = some (enc c3 m) := rens_id (encnors_c3 m)
theorem encold_c3 {b : Nat} (m : List Int) : AV.olds b (enc c3 m) = true := olds_nors (encnors_c3 m)
theorem encpart_c3 (l : List Int) (k : Nat) : (enc c3 l).take k = enc c3 (l.take k) := by simpa only [Nat.mul_one] using enc_takew len_c3 l k
theorem encdrop_c3 (l : List Int) (k : Nat) : (enc c3 l).drop k = enc c3 (l.drop k) := by simpa only [Nat.mul_one] using enc_dropw len_c3 l k
theorem pk_c3 {l : List Int} {j : Int} {x : Int} (h : idx l j = some x) : idx l j = some x ∧ inb j l.length = true ∧ apart_ ((enc c3 l).drop j.toNat) 0 none = (c3 x)[0]? ∧ apart_ (enc c3 l) j.toNat none = (c3 x)[0]? := ⟨h, idx_inb h, vp_one len_c3 h, own_one len_c3 h⟩
def EVE := PLift.up <| And.intro @Pl.cells.eq_1 (And.intro @encnors_Pl_cells (And.intro @enclen_Pl_cells (And.intro @encone_Pl_cells (And.intro @encall_Pl_cells (And.intro @encflat_Pl_cells (And.intro @enctake_Pl_cells (And.intro @encids_Pl_cells (And.intro @encren_Pl_cells (And.intro @encold_Pl_cells (And.intro @encpart_Pl_cells (And.intro @c3.eq_1 (And.intro @encnors_c3 (And.intro @enclen_c3 (And.intro @encone_c3 (And.intro @encall_c3 (And.intro @encflat_c3 (And.intro @enctake_c3 (And.intro @encids_c3 (And.intro @encren_c3 (And.intro @encold_c3 @encpart_c3))))))))))))))))))))
def EVA := PLift.up <| And.intro EV0.down <| And.intro EV1.down <| And.intro EV2.down <| And.intro EV3.down <| And.intro EV4.down <| And.intro EV5.down <| And.intro EV6.down <| And.intro EV7.down <| And.intro EVK.down <| And.intro EVN.down <| And.intro EVE.down @kont_ret

theorem epauli_Check (D : Nat) (hD : 0 ≤ D) (F : Nat) (a0_N : Int) (a0_X : BitVec 64) (a0_Z : BitVec 64) (a0_Phase : Int) (q : Bool) : evW 2 (OV F D) F a97 (some [.agg [.i .i64 (a0_N), .i .u64 (U (a0_X)), .i .u64 (U (a0_Z)), .i .i64 (a0_Phase)]]) q G0 =
    some (.i .i64 ((Ppauli_Check a0_N a0_X a0_Z a0_Phase)), none) := by
  rw [evW_some, G0]
  simp only [Ppauli_Check]
  by_cases h1 : a0_N < (0 : Int)
  rotate_left
  by_cases h2 : a0_N > (64 : Int)
  rotate_left
  by_cases h3 : a0_Phase < (0 : Int)
  rotate_left
  by_cases h4 : a0_Phase > (3 : Int)
  rotate_left
  by_cases h5 : a0_N < (64 : Int)
  by_cases h6 : ((a0_X ||| a0_Z) >>> a0_N.toNat) = 0#64
  replace h6 := eq_true h6
  rotate_left
  rotate_left
  rotate_left
  all_goals simp -implicitDefEqProofs only [*, a97, EVA.down, ne_eq, seval]

theorem vpauli_Check {D F n : Nat} {args : List AV} {h : AHeap} : OV F (D + 1) 97 args h n (n + 1) = evW 2 (OV F D) F a97 (frzs (frz true 0 (bif AV.nors args then [] else h) 8) args) (AV.nors args) (hglb h 2) := evV_frozen rfl

theorem epauli_right (D : Nat) (hD : 1 ≤ D) (F : Nat) (a0_N : Int) (a0_X : BitVec 64) (a0_Z : BitVec 64) (a0_Phase : Int) (q : Bool) : evW 2 (OV F D) F a76 (some [.agg [.i .i64 (a0_N), .i .u64 (U (a0_X)), .i .u64 (U (a0_Z)), .i .i64 (a0_Phase)]]) q G0 =
    some (.b ((Ppauli_right a0_N a0_X a0_Z a0_Phase)), none) := by
  obtain ⟨D, rfl⟩ : ∃ E, D = E + 1 := ⟨D - 1, by omega⟩
  have cpauli_Check0 := epauli_Check (D) (by omega) F
  rw [evW_some, G0]
  skip
  rotate_left
  all_goals simp -implicitDefEqProofs only [*, a76, Ppauli_right, vpauli_Check, EVA.down, ne_eq, seval]

theorem vpauli_right {D F n : Nat} {args : List AV} {h : AHeap} : OV F (D + 1) 76 args h n (n + 1) = evW 2 (OV F D) F a76 (frzs (frz true 0 (bif AV.nors args then [] else h) 8) args) (AV.nors args) (hglb h 2) := evV_frozen rfl

theorem epauli_Hermitian (D : Nat) (hD : 2 ≤ D) (F : Nat) (a0_N : Int) (a0_X : BitVec 64) (a0_Z : BitVec 64) (a0_Phase : Int) (q : Bool) : evW 2 (OV F D) F a39 (some [.agg [.i .i64 (a0_N), .i .u64 (U (a0_X)), .i .u64 (U (a0_Z)), .i .i64 (a0_Phase)]]) q G0 =
    some (.b ((Ppauli_Hermitian a0_N a0_X a0_Z a0_Phase)), none) := by
  obtain ⟨D, rfl⟩ : ∃ E, D = E + 2 := ⟨D - 2, by omega⟩
  have cpauli_right0 := epauli_right (D + 1) (by omega) F
  rw [evW_some, G0]
  simp only [Ppauli_Hermitian]
  rcases h1 : ((Ppauli_right a0_N a0_X a0_Z a0_Phase)) with _ | _
  rotate_left
  rotate_left
  all_goals simp -implicitDefEqProofs only [*, a39, vpauli_right, EVA.down, ne_eq, seval]

theorem vpauli_Hermitian {D F n : Nat} {args : List AV} {h : AHeap} : OV F (D + 1) 39 args h n (n + 1) = evW 2 (OV F D) F a39 (frzs (frz true 0 (bif AV.nors args then [] else h) 8) args) (AV.nors args) (hglb h 2) := evV_frozen rfl

theorem ltableau_CheckL0 (D : Nat) (hD : 3 ≤ D) (F : Nat) (v0 : Int) (v1 : Int) (v2 : Int) (v4 : Int) (v5 : List Pl) (v6 : List Pl) (v7 : Int) (v8 : BitVec 64) (v9 : BitVec 64) (v10 : Int) (v11 : Int) (v12 : BitVec 64) (v13 : BitVec 64) (v14 : Int) (K : AE → AS → Option Res) : ∀ (f : Nat) (v3 : Int) (s : AS), s.keepG 2 [1, 33, 34, 47, 48, 49] [1] = some ⟨[(1, .lp 1 0), (33, .i .i64 (v0)), (34, .i .i64 (v1)), (47, .sl (some (2, 0)) (2) (.ex (2))), (48, .i .i64 (v2)), (49, .i .i64 (v3))], [(1, [.i .i64 (v4), .vs (v5.length) .unk (enc Pl.cells v5), .vs (v6.length) .unk (enc Pl.cells v6)])], [(2, ⟨true, false, 39, 4, [.i .i64 (v7), .i .u64 (U (v8)), .i .u64 (U (v9)), .i .i64 (v10), .i .i64 (v11), .i .u64 (U (v12)), .i .u64 (U (v13)), .i .i64 (v14)]⟩), (0, tab64)], 3⟩ →
    evLoop (evC (OV F D) 2 F a14L0) f s K = match Ptableau_CheckL0 v0 v1 v2 v4 v5 v6 v7 v8 v9 v10 v11 v12 v13 v14 f v3 with | none => none | some (.inl _) => K .ret ⟨[(2, .i .i64 ((140 : Int)))], [], [(0, tab64)], 2⟩ | some (.inr _) => K (.ex 2) ⟨[(1, .lp 1 0), (33, .i .i64 (v0)), (34, .i .i64 (v1))], [(1, [.i .i64 (v4), .vs (v5.length) .unk (enc Pl.cells v5), .vs (v6.length) .unk (enc Pl.cells v6)])], [(0, tab64)], 2⟩ := by
  obtain ⟨D, rfl⟩ : ∃ E, D = E + 3 := ⟨D - 3, by omega⟩
  have cpauli_Hermitian0 := epauli_Hermitian (D + 2) (by omega) F
  intro f
  induction f with
  | zero => intro v3 s hs; simp only [evLoop, Ptableau_CheckL0]
  | succ f ih =>
    intro v3 s hs
    obtain ⟨k0, hk, hn, he, hr⟩ := @lk_all (OV F (D + 3)) 2 F a14L0 f K
    rw [loop_succ, hk, a14L0, runC_cutg, hs]
    clear hs
    simp only [Ptableau_CheckL0]
    clear hk
    by_cases h1 : v3 < v2
    by_cases h2 : v3 = (0 : Int)
    replace h2 := eq_true h2
    have h3 : inb v3 2 = true := by rw [(of_eq_true h2)]; decide
    have h4 : Int.toNat v3 = 0 := by rw [(of_eq_true h2)]; rfl
    by_cases h5 : v7 = v4
    replace h5 := eq_true h5
    rcases h6 : ((Ppauli_Hermitian v7 v8 v9 v10)) with _ | _
    rotate_left
    rotate_left
    rotate_left
    by_cases h7 : v3 = (1 : Int)
    replace h7 := eq_true h7
    have h8 : inb v3 2 = true := by rw [(of_eq_true h7)]; decide
    have h9 : Int.toNat v3 = 1 := by rw [(of_eq_true h7)]; rfl
    by_cases h10 : v11 = v4
    replace h10 := eq_true h10
    rcases h11 : ((Ppauli_Hermitian v11 v12 v13 v14)) with _ | _
    rotate_left
    rotate_left
    rotate_left
    have h12 : inb v3 2 = false := by simp only [inb, Bool.and_eq_false_iff, decide_eq_false_iff_not]; omega
    rotate_left
    rotate_left
    all_goals simp -implicitDefEqProofs only [*, -ih, vpauli_Hermitian, EVA.down, ne_eq, seval]
    all_goals exact ih _ _ (by simp only [*, -ih, vpauli_Hermitian, EVA.down, ne_eq, seval])

theorem ltableau_CheckL1 (D : Nat) (hD : 3 ≤ D) (F : Nat) (v0 : Int) (v2 : Int) (v3 : List Pl) (v4 : List Pl) (K : AE → AS → Option Res) : ∀ (f : Nat) (v1 : Int) (s : AS), s.keepG 2 [1, 33, 34] [1] = some ⟨[(1, .lp 1 0), (33, .i .i64 (v0)), (34, .i .i64 (v1))], [(1, [.i .i64 (v2), .vs (v3.length) .unk (enc Pl.cells v3), .vs (v4.length) .unk (enc Pl.cells v4)])], [(0, tab64)], 2⟩ →
    evLoop (evC (OV F D) 2 F a14L1) f s K = match Ptableau_CheckL1 F v0 v2 v3 v4 f v1 with | none => none | some (.inl _) => K .ret ⟨[(2, .i .i64 ((140 : Int)))], [], [(0, tab64)], 2⟩ | some (.inr _) => K (.ex 0) ⟨[(1, .lp 1 0)], [(1, [.i .i64 (v2), .vs (v3.length) .unk (enc Pl.cells v3), .vs (v4.length) .unk (enc Pl.cells v4)])], [(0, tab64)], 2⟩ := by
  obtain ⟨D, rfl⟩ : ∃ E, D = E + 3 := ⟨D - 3, by omega⟩
  intro f
  induction f with
  | zero => intro v1 s hs; simp only [evLoop, Ptableau_CheckL1]
  | succ f ih =>
    intro v1 s hs
    obtain ⟨k0, hk, hn, he, hr⟩ := @lk_all (OV F (D + 3)) 2 F a14L1 f K
    rw [loop_succ, hk, a14L1, runC_cutg, hs]
    clear hs
    simp only [Ptableau_CheckL1]
    clear hk
    by_cases h1 : v1 < v0
    rcases h2 : (idx v3 v1) with _ | x1
    replace h2 := pkn h2
    rotate_left
    replace h2 := pk_Pl_cells h2
    rcases h3 : (idx v4 v1) with _ | x2
    replace h3 := pkn h3
    rotate_left
    replace h3 := pk_Pl_cells h3
    simp -implicitDefEqProofs only [*, -ih, runC_loop, EVA.down, ne_eq, seval]
    rw [ltableau_CheckL0 (D + 3) (by omega) F v0 v1 (2 : Int) v2 v3 v4 x1.N x1.X x1.Z x1.Ph x2.N x2.X x2.Z x2.Ph _ F (0 : Int) _ (by simp only [*, -ih, EVA.down, ne_eq, seval]; try rfl)]
    rcases h4 : (Ptableau_CheckL0 v0 v1 (2 : Int) v2 v3 v4 x1.N x1.X x1.Z x1.Ph x2.N x2.X x2.Z x2.Ph F (0 : Int)) with _ | (_ | _)
    rotate_left
    rotate_left
    rotate_left
    rotate_left
    all_goals simp -implicitDefEqProofs only [*, -ih, EVA.down, ne_eq, seval]
    all_goals exact ih _ _ (by simp only [*, -ih, EVA.down, ne_eq, seval])

theorem ebits_OnesCount64 (D : Nat) (hD : 0 ≤ D) (F : Nat) (a0 : BitVec 64) (q : Bool) : evW 2 (OV F D) F a77 (some [.i .u64 (U (a0))]) q G0 =
    some (.i .i64 ((Pbits_OnesCount64 a0)), none) := by
  have u2 : AV.i .u64 2 = .i .u64 (U 2#64) := id rfl
  have u4 : AV.i .u64 4 = .i .u64 (U 4#64) := id rfl
  have u8 : AV.i .u64 8 = .i .u64 (U 8#64) := id rfl
  have u16 : AV.i .u64 16 = .i .u64 (U 16#64) := id rfl
  have u32 : AV.i .u64 32 = .i .u64 (U 32#64) := id rfl
  have u1085102592571150095 : AV.i .u64 1085102592571150095 = .i .u64 (U 1085102592571150095#64) := id rfl
  have u3689348814741910323 : AV.i .u64 3689348814741910323 = .i .u64 (U 3689348814741910323#64) := id rfl
  have u6148914691236517205 : AV.i .u64 6148914691236517205 = .i .u64 (U 6148914691236517205#64) := id rfl
  rw [evW_some, G0]
  skip
  rotate_left
  all_goals simp -implicitDefEqProofs only [*, a77, Pbits_OnesCount64, EVA.down, ne_eq, seval]

theorem vbits_OnesCount64 {D F n : Nat} {args : List AV} {h : AHeap} : OV F (D + 1) 77 args h n (n + 1) = evW 2 (OV F D) F a77 (frzs (frz true 0 (bif AV.nors args then [] else h) 8) args) (AV.nors args) (hglb h 2) := evV_frozen rfl

theorem etableau_commute (D : Nat) (hD : 1 ≤ D) (F : Nat) (a0_N : Int) (a0_X : BitVec 64) (a0_Z : BitVec 64) (a0_Phase : Int) (a1_N : Int) (a1_X : BitVec 64) (a1_Z : BitVec 64) (a1_Phase : Int) (q : Bool) : evW 2 (OV F D) F a40 (some [.agg [.i .i64 (a0_N), .i .u64 (U (a0_X)), .i .u64 (U (a0_Z)), .i .i64 (a0_Phase)], .agg [.i .i64 (a1_N), .i .u64 (U (a1_X)), .i .u64 (U (a1_Z)), .i .i64 (a1_Phase)]]) q G0 =
    some (.b ((Ptableau_commute a0_N a0_X a0_Z a0_Phase a1_N a1_X a1_Z a1_Phase)), none) := by
  obtain ⟨D, rfl⟩ : ∃ E, D = E + 1 := ⟨D - 1, by omega⟩
  have cbits_OnesCount640 := ebits_OnesCount64 (D) (by omega) F
  rw [evW_some, G0]
  skip
  rotate_left
  all_goals simp -implicitDefEqProofs only [*, a40, Ptableau_commute, vbits_OnesCount64, EVA.down, ne_eq, seval]

theorem vtableau_commute {D F n : Nat} {args : List AV} {h : AHeap} : OV F (D + 1) 40 args h n (n + 1) = evW 2 (OV F D) F a40 (frzs (frz true 0 (bif AV.nors args then [] else h) 8) args) (AV.nors args) (hglb h 2) := evV_frozen rfl

theorem ltableau_CheckL2 (D : Nat) (hD : 2 ≤ D) (F : Nat) (v0 : Int) (v1 : Int) (v2 : Int) (v3 : Int) (v5 : Int) (v6 : List Pl) (v7 : List Pl) (K : AE → AS → Option Res) : ∀ (f : Nat) (v4 : Int) (s : AS), s.keepG 2 [1, 6, 66, 67, 71, 72] [1] = some ⟨[(1, .lp 1 0), (6, .i .i64 (v0)), (66, .i .i64 (v1)), (67, .i .i64 (v2)), (71, .i .i64 (v3)), (72, .i .i64 (v4))], [(1, [.i .i64 (v5), .vs (v6.length) .unk (enc Pl.cells v6), .vs (v7.length) .unk (enc Pl.cells v7)])], [(0, tab64)], 2⟩ →
    evLoop (evC (OV F D) 2 F a14L2) f s K = match Ptableau_CheckL2 v0 v1 v2 v3 v5 v6 v7 f v4 with | none => none | some (.inl _) => K .ret ⟨[(2, .i .i64 ((140 : Int)))], [], [(0, tab64)], 2⟩ | some (.inr _) => K (.ex 6) ⟨[(1, .lp 1 0), (66, .i .i64 (v1)), (67, .i .i64 (v2))], [(1, [.i .i64 (v5), .vs (v6.length) .unk (enc Pl.cells v6), .vs (v7.length) .unk (enc Pl.cells v7)])], [(0, tab64)], 2⟩ := by
  obtain ⟨D, rfl⟩ : ∃ E, D = E + 2 := ⟨D - 2, by omega⟩
  have ctableau_commute0 := etableau_commute (D + 1) (by omega) F
  intro f
  induction f with
  | zero => intro v4 s hs; simp only [evLoop, Ptableau_CheckL2]
  | succ f ih =>
    intro v4 s hs
    obtain ⟨k0, hk, hn, he, hr⟩ := @lk_all (OV F (D + 2)) 2 F a14L2 f K
    rw [loop_succ, hk, a14L2, runC_cutg, hs]
    clear hs
    simp only [Ptableau_CheckL2]
    clear hk
    by_cases h1 : v4 < v3
    rcases h2 : (idx v6 v0) with _ | x1
    replace h2 := pkn h2
    rotate_left
    replace h2 := pk_Pl_cells h2
    rcases h3 : (idx v6 v4) with _ | x2
    replace h3 := pkn h3
    rotate_left
    replace h3 := pk_Pl_cells h3
    rcases h4 : ((Ptableau_commute x1.N x1.X x1.Z x1.Ph x2.N x2.X x2.Z x2.Ph)) with _ | _
    rotate_left
    rcases h5 : (idx v7 v0) with _ | x3
    replace h5 := pkn h5
    rotate_left
    replace h5 := pk_Pl_cells h5
    rcases h6 : (idx v7 v4) with _ | x4
    replace h6 := pkn h6
    rotate_left
    replace h6 := pk_Pl_cells h6
    rcases h7 : ((Ptableau_commute x3.N x3.X x3.Z x3.Ph x4.N x4.X x4.Z x4.Ph)) with _ | _
    rotate_left
    by_cases h8 : v0 = v4
    replace h8 := eq_true h8
    rcases h9 : ((Ptableau_commute x3.N x3.X x3.Z x3.Ph x2.N x2.X x2.Z x2.Ph)) with _ | _
    rotate_left
    rotate_left
    rcases h10 : ((Ptableau_commute x3.N x3.X x3.Z x3.Ph x2.N x2.X x2.Z x2.Ph)) with _ | _
    rotate_left
    rotate_left
    rotate_left
    all_goals simp -implicitDefEqProofs only [*, -ih, vtableau_commute, EVA.down, ne_eq, seval]
    all_goals exact ih _ _ (by simp only [*, -ih, vtableau_commute, EVA.down, ne_eq, seval])

theorem ltableau_CheckL3 (D : Nat) (hD : 2 ≤ D) (F : Nat) (v0 : Int) (v2 : Int) (v3 : List Pl) (v4 : List Pl) (K : AE → AS → Option Res) : ∀ (f : Nat) (v1 : Int) (s : AS), s.keepG 2 [1, 66, 67] [1] = some ⟨[(1, .lp 1 0), (66, .i .i64 (v0)), (67, .i .i64 (v1))], [(1, [.i .i64 (v2), .vs (v3.length) .unk (enc Pl.cells v3), .vs (v4.length) .unk (enc Pl.cells v4)])], [(0, tab64)], 2⟩ →
    evLoop (evC (OV F D) 2 F a14L3) f s K = match Ptableau_CheckL3 F v0 v2 v3 v4 f v1 with | none => none | some (.inl _) => K .ret ⟨[(2, .i .i64 ((140 : Int)))], [], [(0, tab64)], 2⟩ | some (.inr _) => K (.ex 4) ⟨[], [], [(0, tab64)], 2⟩ := by
  obtain ⟨D, rfl⟩ : ∃ E, D = E + 2 := ⟨D - 2, by omega⟩
  intro f
  induction f with
  | zero => intro v1 s hs; simp only [evLoop, Ptableau_CheckL3]
  | succ f ih =>
    intro v1 s hs
    obtain ⟨k0, hk, hn, he, hr⟩ := @lk_all (OV F (D + 2)) 2 F a14L3 f K
    rw [loop_succ, hk, a14L3, runC_cutg, hs]
    clear hs
    simp only [Ptableau_CheckL3]
    clear hk
    by_cases h1 : v1 < v0
    simp -implicitDefEqProofs only [*, -ih, runC_loop, EVA.down, ne_eq, seval]
    rw [ltableau_CheckL2 (D + 2) (by omega) F v1 v0 v1 v2 v2 v3 v4 _ F (0 : Int) _ (by simp only [*, -ih, EVA.down, ne_eq, seval]; try rfl)]
    rcases h2 : (Ptableau_CheckL2 v1 v0 v1 v2 v2 v3 v4 F (0 : Int)) with _ | (_ | _)
    rotate_left
    rotate_left
    rotate_left
    rotate_left
    all_goals simp -implicitDefEqProofs only [*, -ih, EVA.down, ne_eq, seval]
    all_goals exact ih _ _ (by simp only [*, -ih, EVA.down, ne_eq, seval])

theorem etableau_Check (D : Nat) (hD : 3 ≤ D) (F : Nat) (a0_N : Int) (a0_Stab : List Pl) (a0_Destab : List Pl) (q : Bool) : evW 2 (OV F D) F a14 (some [.agg [.i .i64 (a0_N), .vs (a0_Stab.length) .unk (enc Pl.cells a0_Stab), .vs (a0_Destab.length) .unk (enc Pl.cells a0_Destab)]]) q G0 =
    match Ptableau_Check F a0_N a0_Stab a0_Destab with | none => none | some r0 => some (.i .i64 (r0), none) := by
  obtain ⟨D, rfl⟩ : ∃ E, D = E + 3 := ⟨D - 3, by omega⟩
  rw [evW_some, G0]
  simp only [Ptableau_Check]
  by_cases h1 : a0_N < (0 : Int)
  rotate_left
  by_cases h2 : a0_N > (64 : Int)
  rotate_left
  by_cases h3 : (a0_Stab.length : Int) = a0_N
  replace h3 := eq_true h3
  by_cases h4 : (a0_Destab.length : Int) = a0_N
  replace h4 := eq_true h4
  simp -implicitDefEqProofs only [*, a14, runC_loop, EVA.down, ne_eq, seval]
  rw [ltableau_CheckL1 (D + 3) (by omega) F a0_N a0_N a0_Stab a0_Destab _ F (0 : Int) _ (by simp only [*, a14, EVA.down, ne_eq, seval]; try rfl)]
  rcases h5 : (Ptableau_CheckL1 F a0_N a0_N a0_Stab a0_Destab F (0 : Int)) with _ | (_ | _)
  rotate_left
  rotate_left
  simp -implicitDefEqProofs only [*, a14, runC_loop, EVA.down, ne_eq, seval]
  rw [ltableau_CheckL3 (D + 3) (by omega) F a0_N a0_N a0_Stab a0_Destab _ F (0 : Int) _ (by simp only [*, a14, EVA.down, ne_eq, seval]; try rfl)]
  rcases h6 : (Ptableau_CheckL3 F a0_N a0_N a0_Stab a0_Destab F (0 : Int)) with _ | (_ | _)
  rotate_left
  rotate_left
  rotate_left
  rotate_left
  rotate_left
  all_goals simp -implicitDefEqProofs only [*, a14, EVA.down, ne_eq, seval]

theorem vtableau_Check {D F n : Nat} {args : List AV} {h : AHeap} : OV F (D + 1) 14 args h n (n + 1) = evW 2 (OV F D) F a14 (frzs (frz true 0 (bif AV.nors args then [] else h) 8) args) (AV.nors args) (hglb h 2) := evV_frozen rfl

theorem elaw14_num (D : Nat) (hD : 0 ≤ D) (F : Nat) (a0 : Int) (q : Bool) : evW 2 (OV F D) F a13 (some [.i .i64 (a0)]) q G0 =
    some (.i .i64 ((Plaw14_num a0)), none) := by
  rw [evW_some, G0]
  skip
  rotate_left
  all_goals simp -implicitDefEqProofs (maxSteps := 4000000) only [*, a13, Plaw14_num, EVA.down, ne_eq, seval]

theorem vlaw14_num {D F n : Nat} {args : List AV} {h : AHeap} : OV F (D + 1) 13 args h n (n + 1) = evW 2 (OV F D) F a13 (frzs (frz true 0 (bif AV.nors args then [] else h) 8) args) (AV.nors args) (hglb h 2) := evV_frozen rfl

theorem eref14_Copy (D : Nat) (hD : 0 ≤ D) (F : Nat) (a0_N : Int) (a0_Stab : List Pl) (a0_Destab : List Pl) (q : Bool) : evW 2 (OV F D) F a17 (some [.agg [.i .i64 (a0_N), .vs (a0_Stab.length) .unk (enc Pl.cells a0_Stab), .vs (a0_Destab.length) .unk (enc Pl.cells a0_Destab)]]) q G0 =
    match Pref14_Copy a0_N a0_Stab a0_Destab with | none => none | some (r0, r1, r2) => some (.agg [.i .i64 (r0), .vs (r1.length) .unk (enc Pl.cells r1), .vs (r2.length) .unk (enc Pl.cells r2)], none) := by
  rw [evW_some, G0]
  simp only [Pref14_Copy]
  by_cases h1 : a0_Stab = []
  replace h1 := eq_true h1
  by_cases h2 : a0_Destab = []
  replace h2 := eq_true h2
  rotate_left
  by_cases h3 : a0_Destab.length * 32 ≤ 140737488355328
  rotate_left
  rotate_left
  by_cases h4 : a0_Stab.length * 32 ≤ 140737488355328
  by_cases h5 : a0_Destab = []
  replace h5 := eq_true h5
  rotate_left
  by_cases h6 : a0_Destab.length * 32 ≤ 140737488355328
  rotate_left
  rotate_left
  rotate_left
  all_goals simp -implicitDefEqProofs only [*, a17, EVA.down, ne_eq, seval]

theorem vref14_Copy {D F n : Nat} {args : List AV} {h : AHeap} : OV F (D + 1) 17 args h n (n + 1) = evW 2 (OV F D) F a17 (frzs (frz true 0 (bif AV.nors args then [] else h) 8) args) (AV.nors args) (hglb h 2) := evV_frozen rfl

theorem eref14_Copyo (D : Nat) (hD : 0 ≤ D) (F : Nat) (a0_N : Int) (a0_Stab : List Pl) (a0_Destab : List Pl) (n : Nat) : evX 2 (OV F D) F a17 (some [.agg [.i .i64 (a0_N), .vs (a0_Stab.length) .unk (enc Pl.cells a0_Stab), .vs (a0_Destab.length) .unk (enc Pl.cells a0_Destab)]]) true G0 n =
    match Pref14_Copy a0_N a0_Stab a0_Destab with | none => none | some (r0, r1, r2) => (match ownS Pl.cells 39 4 (.vs 0 .unk []) r1 n with | (w0, g0, n0) => (match ownS Pl.cells 39 4 (.vs 0 .unk []) r2 n0 with | (w1, g1, n1) => some (.agg [.i .i64 (r0), w0, w1], some (g0 ++ g1, n1)))) := by
  rw [evX_some, G0]
  simp only [Pref14_Copy]
  by_cases h1 : a0_Stab = []
  replace h1 := eq_true h1
  by_cases h2 : a0_Destab = []
  replace h2 := eq_true h2
  rotate_left
  by_cases h3 : a0_Destab.length * 32 ≤ 140737488355328
  rotate_left
  rotate_left
  by_cases h4 : a0_Stab.length * 32 ≤ 140737488355328
  by_cases h5 : a0_Destab = []
  replace h5 := eq_true h5
  rotate_left
  by_cases h6 : a0_Destab.length * 32 ≤ 140737488355328
  rotate_left
  rotate_left
  rotate_left
  all_goals simp -implicitDefEqProofs only [*, a17, EVA.down, ne_eq, seval]

theorem vref14_Copyo {D F n : Nat} {args : List AV} {h : AHeap} : OV F (D + 1) 17 args h n n = evX 2 (OV F D) F a17 (frzs (frz true 0 (bif AV.nors args then [] else h) 8) args) (AV.nors args) (hglb h 2) n := evV_own rfl

theorem epauli_pair (D : Nat) (hD : 2 ≤ D) (F : Nat) (a0_N : Int) (a0_X : BitVec 64) (a0_Z : BitVec 64) (a0_Phase : Int) (a1_N : Int) (a1_X : BitVec 64) (a1_Z : BitVec 64) (a1_Phase : Int) (q : Bool) : evW 2 (OV F D) F a44 (some [.agg [.i .i64 (a0_N), .i .u64 (U (a0_X)), .i .u64 (U (a0_Z)), .i .i64 (a0_Phase)], .agg [.i .i64 (a1_N), .i .u64 (U (a1_X)), .i .u64 (U (a1_Z)), .i .i64 (a1_Phase)]]) q G0 =
    some (.b ((Ppauli_pair a0_N a0_X a0_Z a0_Phase a1_N a1_X a1_Z a1_Phase)), none) := by
  obtain ⟨D, rfl⟩ : ∃ E, D = E + 2 := ⟨D - 2, by omega⟩
  have cpauli_right0 := epauli_right (D + 1) (by omega) F
  rw [evW_some, G0]
  simp only [Ppauli_pair]
  rcases h1 : ((Ppauli_right a0_N a0_X a0_Z a0_Phase)) with _ | _
  rotate_left
  rcases h2 : ((Ppauli_right a1_N a1_X a1_Z a1_Phase)) with _ | _
  rotate_left
  rotate_left
  all_goals simp -implicitDefEqProofs only [*, a44, vpauli_right, EVA.down, ne_eq, seval]

theorem vpauli_pair {D F n : Nat} {args : List AV} {h : AHeap} : OV F (D + 1) 44 args h n (n + 1) = evW 2 (OV F D) F a44 (frzs (frz true 0 (bif AV.nors args then [] else h) 8) args) (AV.nors args) (hglb h 2) := evV_frozen rfl

theorem ebits_TrailingZeros64 (D : Nat) (hD : 0 ≤ D) (F : Nat) (a0 : BitVec 64) (q : Bool) : evW 2 (OV F D) F a78 (some [.i .u64 (U (a0))]) q G0 =
    match Pbits_TrailingZeros64 a0 with | none => none | some r0 => some (.i .i64 (r0), none) := by
  have u58 : AV.i .u64 58 = .i .u64 (U 58#64) := id rfl
  have u285870213051353865 : AV.i .u64 285870213051353865 = .i .u64 (U 285870213051353865#64) := id rfl
  obtain ⟨mk, hmk⟩ : ∃ m : BitVec 64 → BitVec 64, ∀ x, x * 285870213051353865#64 = m x := ⟨fun x => x * 285870213051353865#64, fun _ => rfl⟩
  rw [evW_some, G0]
  simp only [Pbits_TrailingZeros64, hmk]
  by_cases h1 : a0 = 0#64
  replace h1 := eq_true h1
  rotate_left
  rcases h2 : (idx zs64 (U ((mk (a0 &&& (-a0))) >>> (58 : Nat)))) with _ | x1
  have h2o := tab_out h2
  rotate_left
  have h2i := tab_inb h2
  have h2r := tab_at h2
  rotate_left
  all_goals simp -implicitDefEqProofs only [*, a78, EVA.down, ne_eq, seval]

theorem vbits_TrailingZeros64 {D F n : Nat} {args : List AV} {h : AHeap} : OV F (D + 1) 78 args h n (n + 1) = evW 2 (OV F D) F a78 (frzs (frz true 0 (bif AV.nors args then [] else h) 8) args) (AV.nors args) (hglb h 2) := evV_frozen rfl

theorem epauli_code (D : Nat) (hD : 0 ≤ D) (F : Nat) (a0_N : Int) (a0_X : BitVec 64) (a0_Z : BitVec 64) (a0_Phase : Int) (a1 : Int) (q : Bool) : evW 2 (OV F D) F a79 (some [.agg [.i .i64 (a0_N), .i .u64 (U (a0_X)), .i .u64 (U (a0_Z)), .i .i64 (a0_Phase)], .i .i64 (a1)]) q G0 =
    match Ppauli_code a0_N a0_X a0_Z a0_Phase a1 with | none => none | some r0 => some (.i .i64 (r0), none) := by
  rw [evW_some, G0]
  simp only [Ppauli_code]
  by_cases h1 : a1 < (0 : Int)
  rotate_left
  rotate_left
  all_goals simp -implicitDefEqProofs only [*, a79, EVA.down, ne_eq, seval]

theorem vpauli_code {D F n : Nat} {args : List AV} {h : AHeap} : OV F (D + 1) 79 args h n (n + 1) = evW 2 (OV F D) F a79 (frzs (frz true 0 (bif AV.nors args then [] else h) 8) args) (AV.nors args) (hglb h 2) := evV_frozen rfl

theorem lpauli_timesL0 (D : Nat) (hD : 1 ≤ D) (F : Nat) (v2 : Int) (v3 : BitVec 64) (v4 : BitVec 64) (v5 : Int) (v6 : Int) (v7 : BitVec 64) (v8 : BitVec 64) (v9 : Int) (v10 : Int) (v11 : BitVec 64) (v12 : BitVec 64) (v13 : Int) (K : AE → AS → Option Res) : ∀ (f : Nat) (v0 : Int) (v1 : BitVec 64) (s : AS), s.keep [2, 3, 4, 5, 6] [2, 3, 4] = some ⟨[(2, .lp 2 0), (3, .lp 3 0), (4, .lp 4 0), (5, .i .i64 (v0)), (6, .i .u64 (U (v1)))], [(2, [.i .i64 (v2), .i .u64 (U (v3)), .i .u64 (U (v4)), .i .i64 (v5)]), (3, [.i .i64 (v6), .i .u64 (U (v7)), .i .u64 (U (v8)), .i .i64 (v9)]), (4, [.i .i64 (v10), .i .u64 (U (v11)), .i .u64 (U (v12)), .i .i64 (v13)])], [(0, tab64)], 2⟩ →
    evLoop (evC (OV F D) 2 F a45L0) f s K = match Ppauli_timesL0 v2 v3 v4 v5 v6 v7 v8 v9 v10 v11 v12 v13 f v0 v1 with | none => none | some (y0) => K (.ex 0) ⟨[(2, .lp 2 0), (3, .lp 3 0), (4, .lp 4 0), (5, .i .i64 (y0))], [(2, [.i .i64 (v2), .i .u64 (U (v3)), .i .u64 (U (v4)), .i .i64 (v5)]), (3, [.i .i64 (v6), .i .u64 (U (v7)), .i .u64 (U (v8)), .i .i64 (v9)]), (4, [.i .i64 (v10), .i .u64 (U (v11)), .i .u64 (U (v12)), .i .i64 (v13)])], [(0, tab64)], 2⟩ := by
  obtain ⟨D, rfl⟩ : ∃ E, D = E + 1 := ⟨D - 1, by omega⟩
  have cbits_TrailingZeros640 := ebits_TrailingZeros64 (D) (by omega) F
  have cpauli_code0 := epauli_code (D) (by omega) F
  intro f
  induction f with
  | zero => intro v0 v1 s hs; simp only [evLoop, Ppauli_timesL0]
  | succ f ih =>
    intro v0 v1 s hs
    obtain ⟨k0, hk, hn, he, hr⟩ := @lk_all (OV F (D + 1)) 2 F a45L0 f K
    rw [loop_succ, hk, a45L0, runC_cut, hs]
    clear hs
    simp only [Ppauli_timesL0]
    clear hk
    by_cases h1 : v1 = 0#64
    replace h1 := eq_true h1
    rotate_left
    rcases h2 : (Pbits_TrailingZeros64 v1) with _ | r1
    rotate_left
    rcases h3 : (Ppauli_code v6 v7 v8 v9 r1) with _ | r2
    rotate_left
    rcases h4 : (Ppauli_code v2 v3 v4 v5 r1) with _ | r3
    rotate_left
    by_cases h5 : ((IntKind.i64.wrap ((IntKind.i64.wrap (r2 - r3)) + (3 : Int))).tmod (3 : Int)) = (1 : Int)
    replace h5 := eq_true h5
    rotate_left
    by_cases h6 : ((IntKind.i64.wrap ((IntKind.i64.wrap (r2 - r3)) + (3 : Int))).tmod (3 : Int)) = (2 : Int)
    replace h6 := eq_true h6
    rotate_left
    rotate_left
    all_goals simp -implicitDefEqProofs only [*, -ih, vbits_TrailingZeros64, vpauli_code, EVA.down, ne_eq, seval]
    all_goals exact ih _ _ _ (by simp only [*, -ih, vbits_TrailingZeros64, vpauli_code, EVA.down, ne_eq, seval])

theorem epauli_times (D : Nat) (hD : 1 ≤ D) (F : Nat) (a0_N : Int) (a0_X : BitVec 64) (a0_Z : BitVec 64) (a0_Phase : Int) (a1_N : Int) (a1_X : BitVec 64) (a1_Z : BitVec 64) (a1_Phase : Int) (q : Bool) : evW 2 (OV F D) F a45 (some [.agg [.i .i64 (a0_N), .i .u64 (U (a0_X)), .i .u64 (U (a0_Z)), .i .i64 (a0_Phase)], .agg [.i .i64 (a1_N), .i .u64 (U (a1_X)), .i .u64 (U (a1_Z)), .i .i64 (a1_Phase)]]) q G0 =
    match Ppauli_times F a0_N a0_X a0_Z a0_Phase a1_N a1_X a1_Z a1_Phase with | none => none | some (r0, r1, r2, r3) => some (.agg [.i .i64 (r0), .i .u64 (U (r1)), .i .u64 (U (r2)), .i .i64 (r3)], none) := by
  obtain ⟨D, rfl⟩ : ∃ E, D = E + 1 := ⟨D - 1, by omega⟩
  rw [evW_some, G0]
  simp only [Ppauli_times]
  simp -implicitDefEqProofs only [*, a45, runC_loop, EVA.down, ne_eq, seval]
  rw [lpauli_timesL0 (D + 1) (by omega) F a0_N a0_X a0_Z a0_Phase a1_N a1_X a1_Z a1_Phase (0 : Int) 0#64 0#64 (0 : Int) _ F (IntKind.i64.wrap (a0_Phase + a1_Phase)) ((a0_X ||| a0_Z) &&& (a1_X ||| a1_Z)) _ (by simp only [*, a45, EVA.down, ne_eq, seval]; try rfl)]
  rcases h1 : (Ppauli_timesL0 a0_N a0_X a0_Z a0_Phase a1_N a1_X a1_Z a1_Phase (0 : Int) 0#64 0#64 (0 : Int) F (IntKind.i64.wrap (a0_Phase + a1_Phase)) ((a0_X ||| a0_Z) &&& (a1_X ||| a1_Z))) with _ | y1
  rotate_left
  rotate_left
  all_goals simp -implicitDefEqProofs only [*, a45, EVA.down, ne_eq, seval]

theorem vpauli_times {D F n : Nat} {args : List AV} {h : AHeap} : OV F (D + 1) 45 args h n (n + 1) = evW 2 (OV F D) F a45 (frzs (frz true 0 (bif AV.nors args then [] else h) 8) args) (AV.nors args) (hglb h 2) := evV_frozen rfl

theorem epauli_Mul (D : Nat) (hD : 3 ≤ D) (F : Nat) (a0_N : Int) (a0_X : BitVec 64) (a0_Z : BitVec 64) (a0_Phase : Int) (a1_N : Int) (a1_X : BitVec 64) (a1_Z : BitVec 64) (a1_Phase : Int) (q : Bool) : evW 2 (OV F D) F a18 (some [.agg [.i .i64 (a0_N), .i .u64 (U (a0_X)), .i .u64 (U (a0_Z)), .i .i64 (a0_Phase)], .agg [.i .i64 (a1_N), .i .u64 (U (a1_X)), .i .u64 (U (a1_Z)), .i .i64 (a1_Phase)]]) q G0 =
    match Ppauli_Mul F a0_N a0_X a0_Z a0_Phase a1_N a1_X a1_Z a1_Phase with | none => none | some (r0, r1, r2, r3, r4) => some (.tup [.agg [.i .i64 (r0), .i .u64 (U (r1)), .i .u64 (U (r2)), .i .i64 (r3)], .i .i64 (r4)], none) := by
  obtain ⟨D, rfl⟩ : ∃ E, D = E + 3 := ⟨D - 3, by omega⟩
  have cpauli_pair0 := epauli_pair (D + 2) (by omega) F
  have cpauli_times0 := epauli_times (D + 2) (by omega) F
  rw [evW_some, G0]
  simp only [Ppauli_Mul]
  rcases h1 : ((Ppauli_pair a0_N a0_X a0_Z a0_Phase a1_N a1_X a1_Z a1_Phase)) with _ | _
  rotate_left
  rcases h2 : (Ppauli_times F a0_N a0_X a0_Z a0_Phase a1_N a1_X a1_Z a1_Phase) with _ | ⟨r1, r2, r3, r4⟩
  rotate_left
  rotate_left
  all_goals simp -implicitDefEqProofs only [*, a18, vpauli_pair, vpauli_times, EVA.down, ne_eq, seval]

theorem vpauli_Mul {D F n : Nat} {args : List AV} {h : AHeap} : OV F (D + 1) 18 args h n (n + 1) = evW 2 (OV F D) F a18 (frzs (frz true 0 (bif AV.nors args then [] else h) 8) args) (AV.nors args) (hglb h 2) := evV_frozen rfl

theorem etableau_column (D : Nat) (hD : 0 ≤ D) (F : Nat) (a0_N : Int) (a0_X : BitVec 64) (a0_Z : BitVec 64) (a0_Phase : Int) (a1 : Int) (q : Bool) : evW 2 (OV F D) F a85 (some [.agg [.i .i64 (a0_N), .i .u64 (U (a0_X)), .i .u64 (U (a0_Z)), .i .i64 (a0_Phase)], .i .i64 (a1)]) q G0 =
    match Ptableau_column a0_N a0_X a0_Z a0_Phase a1 with | none => none | some r0 => some (.i .u64 (U (r0)), none) := by
  rw [evW_some, G0]
  simp only [Ptableau_column]
  by_cases h1 : a1 < a0_N
  by_cases h2 : a1 < (0 : Int)
  rotate_left
  rotate_left
  by_cases h3 : (IntKind.i64.wrap (a1 - a0_N)) < (0 : Int)
  rotate_left
  rotate_left
  all_goals simp -implicitDefEqProofs only [*, a85, EVA.down, ne_eq, seval]

theorem vtableau_column {D F n : Nat} {args : List AV} {h : AHeap} : OV F (D + 1) 85 args h n (n + 1) = evW 2 (OV F D) F a85 (frzs (frz true 0 (bif AV.nors args then [] else h) 8) args) (AV.nors args) (hglb h 2) := evV_frozen rfl

theorem ltableau_echelonL0 (D : Nat) (hD : 1 ≤ D) (F : Nat) (v0 : List Pl) (v1 : Int) (v2 : Int) (v5 : Int) (v6 : Int) (K : AE → AS → Option Res) : ∀ (f : Nat) (v3 : Int) (v4 : Int) (s : AS), s.keepG 2 [0, 5, 6, 7, 8, 13, 14] [] = some ⟨[(0, .vs (v0.length) .unk (enc Pl.cells v0)), (5, .i .i64 (v1)), (6, .i .i64 (v2)), (7, .i .i64 (v3)), (8, .i .i64 (v4)), (13, .i .i64 (v5)), (14, .i .i64 (v6))], [], [(0, tab64)], 2⟩ →
    evLoop (evC (OV F D) 2 F a55L0) f s K = match Ptableau_echelonL0 v0 v1 v2 v5 v6 f v3 v4 with | none => none | some (y0) => K (.ex 2) ⟨[(0, .vs (v0.length) .unk (enc Pl.cells v0)), (5, .i .i64 (v1)), (6, .i .i64 (v2)), (7, .i .i64 (y0)), (13, .i .i64 (v5)), (14, .i .i64 (v6))], [], [(0, tab64)], 2⟩ := by
  obtain ⟨D, rfl⟩ : ∃ E, D = E + 1 := ⟨D - 1, by omega⟩
  have ctableau_column0 := etableau_column (D) (by omega) F
  intro f
  induction f with
  | zero => intro v3 v4 s hs; simp only [evLoop, Ptableau_echelonL0]
  | succ f ih =>
    intro v3 v4 s hs
    obtain ⟨k0, hk, hn, he, hr⟩ := @lk_all (OV F (D + 1)) 2 F a55L0 f K
    rw [loop_succ, hk, a55L0, runC_cutg, hs]
    clear hs
    simp only [Ptableau_echelonL0]
    clear hk
    by_cases h1 : v4 < (v0.length : Int)
    by_cases h2 : v3 < (0 : Int)
    rcases h3 : (idx v0 v4) with _ | x1
    replace h3 := pkn h3
    rotate_left
    replace h3 := pk_Pl_cells h3
    rcases h4 : (Ptableau_column x1.N x1.X x1.Z x1.Ph v2) with _ | r2
    rotate_left
    by_cases h5 : r2 = 1#64
    replace h5 := eq_true h5
    rotate_left
    rotate_left
    rotate_left
    rotate_left
    all_goals simp -implicitDefEqProofs only [*, -ih, vtableau_column, EVA.down, ne_eq, seval]
    all_goals exact ih _ _ _ (by simp only [*, -ih, vtableau_column, EVA.down, ne_eq, seval])

theorem ltableau_echelonL1 (D : Nat) (hD : 1 ≤ D) (F : Nat) (v0 : List Pl) (v1 : Int) (v2 : Int) (K : AE → AS → Option Res) : ∀ (f : Nat) (v3 : Int) (s : AS), s.keepG 2 [0, 5, 13, 14] [] = some ⟨[(0, .vs (v0.length) .unk (enc Pl.cells v0)), (5, .i .i64 (v1)), (13, .i .i64 (v2)), (14, .i .i64 (v3))], [], [(0, tab64)], 2⟩ →
    evLoop (evC (OV F D) 2 F a55L2) f s K = match Ptableau_echelonL1 F v0 v1 v2 f v3 with | none => none | some (_) => K (.ex 0) ⟨[(0, .vs (v0.length) .unk (enc Pl.cells v0))], [], [(0, tab64)], 2⟩ := by
  obtain ⟨D, rfl⟩ : ∃ E, D = E + 1 := ⟨D - 1, by omega⟩
  intro f
  induction f with
  | zero => intro v3 s hs; simp only [evLoop, Ptableau_echelonL1]
  | succ f ih =>
    intro v3 s hs
    obtain ⟨k0, hk, hn, he, hr⟩ := @lk_all (OV F (D + 1)) 2 F a55L2 f K
    rw [loop_succ, hk, a55L2, runC_cutg, hs]
    clear hs
    simp only [Ptableau_echelonL1]
    clear hk
    by_cases h1 : v3 < v2
    simp -implicitDefEqProofs only [*, -ih, runC_loop, EVA.down, ne_eq, seval]
    rw [ltableau_echelonL0 (D + 1) (by omega) F v0 v1 v3 v2 v3 _ F ((-1) : Int) v1 _ (by simp only [*, -ih, EVA.down, ne_eq, seval]; try rfl)]
    rcases h2 : (Ptableau_echelonL0 v0 v1 v3 v2 v3 F ((-1) : Int) v1) with _ | y1
    rotate_left
    by_cases h3 : y1 < (0 : Int)
    rotate_left
    rcases h4 : (idx v0 y1) with _ | x2
    replace h4 := pkn h4
    rotate_left
    replace h4 := pk_Pl_cells h4
    rcases h5 : (idx v0 v1) with _ | x3
    replace h5 := pkn h5
    rotate_left
    replace h5 := pk_Pl_cells h5
    rotate_left
    rotate_left
    all_goals simp -implicitDefEqProofs only [*, -ih, EVA.down, ne_eq, seval]
    all_goals exact ih _ _ (by simp only [*, -ih, EVA.down, ne_eq, seval])

theorem ltableau_echelonL2 (D : Nat) (hD : 1 ≤ D) (F : Nat) (v0 : Int) (v1 : Int) (v4 : Int) (v5 : Int) (v6 : List Pl) (K : AE → AS → Option Res) : ∀ (f : Nat) (v2 : Int) (v3 : Int) (s : AS), s.keepG 2 [0, 5, 6, 7, 8, 13, 14] [] = some ⟨[(0, .sl (some (2, 0)) (v6.length) .op), (5, .i .i64 (v0)), (6, .i .i64 (v1)), (7, .i .i64 (v2)), (8, .i .i64 (v3)), (13, .i .i64 (v4)), (14, .i .i64 (v5))], [], [(2, ⟨true, true, 39, 4, enc Pl.cells v6⟩), (0, tab64)], 3⟩ →
    evLoop (evC (OV F D) 2 F a55L0) f s K = match Ptableau_echelonL2 v0 v1 v4 v5 v6 f v2 v3 with | none => none | some (y0) => K (.ex 2) ⟨[(0, .sl (some (2, 0)) (v6.length) .op), (5, .i .i64 (v0)), (6, .i .i64 (v1)), (7, .i .i64 (y0)), (13, .i .i64 (v4)), (14, .i .i64 (v5))], [], [(2, ⟨true, true, 39, 4, enc Pl.cells v6⟩), (0, tab64)], 3⟩ := by
  obtain ⟨D, rfl⟩ : ∃ E, D = E + 1 := ⟨D - 1, by omega⟩
  have ctableau_column0 := etableau_column (D) (by omega) F
  intro f
  induction f with
  | zero => intro v2 v3 s hs; simp only [evLoop, Ptableau_echelonL2]
  | succ f ih =>
    intro v2 v3 s hs
    obtain ⟨k0, hk, hn, he, hr⟩ := @lk_all (OV F (D + 1)) 2 F a55L0 f K
    rw [loop_succ, hk, a55L0, runC_cutg, hs]
    clear hs
    simp only [Ptableau_echelonL2]
    clear hk
    by_cases h1 : v3 < (((v6.length : Nat) : Int))
    by_cases h2 : v2 < (0 : Int)
    rcases h3 : (idx v6 v3) with _ | x1
    replace h3 := pkn h3
    rotate_left
    replace h3 := pk_Pl_cells h3
    rcases h4 : (Ptableau_column x1.N x1.X x1.Z x1.Ph v1) with _ | r2
    rotate_left
    by_cases h5 : r2 = 1#64
    replace h5 := eq_true h5
    rotate_left
    rotate_left
    rotate_left
    rotate_left
    all_goals simp -implicitDefEqProofs only [*, -ih, vtableau_column, EVA.down, ne_eq, seval]
    all_goals exact ih _ _ _ (by simp only [*, -ih, vtableau_column, EVA.down, ne_eq, seval])

theorem etableau_mul (D : Nat) (hD : 4 ≤ D) (F : Nat) (a0_N : Int) (a0_X : BitVec 64) (a0_Z : BitVec 64) (a0_Phase : Int) (a1_N : Int) (a1_X : BitVec 64) (a1_Z : BitVec 64) (a1_Phase : Int) (q : Bool) : evW 2 (OV F D) F a86 (some [.agg [.i .i64 (a0_N), .i .u64 (U (a0_X)), .i .u64 (U (a0_Z)), .i .i64 (a0_Phase)], .agg [.i .i64 (a1_N), .i .u64 (U (a1_X)), .i .u64 (U (a1_Z)), .i .i64 (a1_Phase)]]) q G0 =
    match Ptableau_mul F a0_N a0_X a0_Z a0_Phase a1_N a1_X a1_Z a1_Phase with | none => none | some (r0, r1, r2, r3) => some (.agg [.i .i64 (r0), .i .u64 (U (r1)), .i .u64 (U (r2)), .i .i64 (r3)], none) := by
  obtain ⟨D, rfl⟩ : ∃ E, D = E + 4 := ⟨D - 4, by omega⟩
  have cpauli_Mul0 := epauli_Mul (D + 3) (by omega) F
  rw [evW_some, G0]
  simp only [Ptableau_mul]
  rcases h1 : (Ppauli_Mul F a0_N a0_X a0_Z a0_Phase a1_N a1_X a1_Z a1_Phase) with _ | ⟨r1, r2, r3, r4, r5⟩
  rotate_left
  rotate_left
  all_goals simp -implicitDefEqProofs only [*, a86, vpauli_Mul, EVA.down, ne_eq, seval]

theorem vtableau_mul {D F n : Nat} {args : List AV} {h : AHeap} : OV F (D + 1) 86 args h n (n + 1) = evW 2 (OV F D) F a86 (frzs (frz true 0 (bif AV.nors args then [] else h) 8) args) (AV.nors args) (hglb h 2) := evV_frozen rfl

theorem ltableau_echelonL3 (D : Nat) (hD : 5 ≤ D) (F : Nat) (v0 : Int) (v1 : Int) (v2 : Int) (v3 : Int) (v4 : Int) (K : AE → AS → Option Res) : ∀ (f : Nat) (v5 : Int) (v6 : List Pl) (s : AS), s.keepG 2 [0, 5, 6, 13, 14, 53, 54] [] = some ⟨[(0, .sl (some (2, 0)) (v6.length) .op), (5, .i .i64 (v0)), (6, .i .i64 (v1)), (13, .i .i64 (v2)), (14, .i .i64 (v3)), (53, .i .i64 (v4)), (54, .i .i64 (v5))], [], [(2, ⟨true, true, 39, 4, enc Pl.cells v6⟩), (0, tab64)], 3⟩ →
    evLoop (evC (OV F D) 2 F a55L1) f s K = match Ptableau_echelonL3 F v0 v1 v2 v3 v4 f v5 v6 with | none => none | some (y0) => K (.ex 4) ⟨[(0, .sl (some (2, 0)) (y0.length) .op), (5, .i .i64 (v0)), (13, .i .i64 (v2)), (14, .i .i64 (v3))], [], [(2, ⟨true, true, 39, 4, enc Pl.cells y0⟩), (0, tab64)], 3⟩ := by
  obtain ⟨D, rfl⟩ : ∃ E, D = E + 5 := ⟨D - 5, by omega⟩
  have ctableau_column0 := etableau_column (D + 4) (by omega) F
  have ctableau_mul0 := etableau_mul (D + 4) (by omega) F
  intro f
  induction f with
  | zero => intro v5 v6 s hs; simp only [evLoop, Ptableau_echelonL3]
  | succ f ih =>
    intro v5 v6 s hs
    obtain ⟨k0, hk, hn, he, hr⟩ := @lk_all (OV F (D + 5)) 2 F a55L1 f K
    rw [loop_succ, hk, a55L1, runC_cutg, hs]
    clear hs
    simp only [Ptableau_echelonL3]
    clear hk
    by_cases h1 : v5 < v4
    by_cases h2 : v5 = v0
    replace h2 := eq_true h2
    rotate_left
    rcases h3 : (idx v6 v5) with _ | x1
    replace h3 := pkn h3
    rotate_left
    replace h3 := pk_Pl_cells h3
    rcases h4 : (Ptableau_column x1.N x1.X x1.Z x1.Ph v1) with _ | r2
    rotate_left
    by_cases h5 : r2 = 1#64
    replace h5 := eq_true h5
    rcases h6 : (idx v6 v0) with _ | x3
    replace h6 := pkn h6
    rotate_left
    replace h6 := pk_Pl_cells h6
    rcases h7 : (Ptableau_mul F x1.N x1.X x1.Z x1.Ph x3.N x3.X x3.Z x3.Ph) with _ | ⟨r4, r5, r6, r7⟩
    rotate_left
    have h8 : v5.toNat * 4 + 4 ≤ v6.length * 4 := by have := (idx_some h3.1).2.1; omega
    have h9 : splice (enc Pl.cells v6) (v5.toNat * 4) [.i .i64 (r4), .i .u64 (U (r5)), .i .u64 (U (r6)), .i .i64 (r7)] = enc Pl.cells ((v6).set v5.toNat (⟨r4, r5, r6, r7⟩ : Pl)) := own_put len_Pl_cells h3.1 (⟨r4, r5, r6, r7⟩ : Pl)
    rotate_left
    rotate_left
    rotate_left
    all_goals simp -implicitDefEqProofs only [*, -ih, vtableau_column, vtableau_mul, EVA.down, ne_eq, seval]
    all_goals exact ih _ _ _ (by simp only [*, -ih, vtableau_column, vtableau_mul, EVA.down, ne_eq, seval])

theorem ltableau_echelonL4 (D : Nat) (hD : 5 ≤ D) (F : Nat) (v1 : Int) (K : AE → AS → Option Res) : ∀ (f : Nat) (v0 : Int) (v2 : Int) (v3 : List Pl) (s : AS), s.keepG 2 [0, 5, 13, 14] [] = some ⟨[(0, .sl (some (2, 0)) (v3.length) .op), (5, .i .i64 (v0)), (13, .i .i64 (v1)), (14, .i .i64 (v2))], [], [(2, ⟨true, true, 39, 4, enc Pl.cells v3⟩), (0, tab64)], 3⟩ →
    evLoop (evC (OV F D) 2 F a55L2) f s K = match Ptableau_echelonL4 F v1 f v0 v2 v3 with | none => none | some (y0) => K (.ex 0) ⟨[(0, .sl (some (2, 0)) (y0.length) .op)], [], [(2, ⟨true, true, 39, 4, enc Pl.cells y0⟩), (0, tab64)], 3⟩ := by
  obtain ⟨D, rfl⟩ : ∃ E, D = E + 5 := ⟨D - 5, by omega⟩
  intro f
  induction f with
  | zero => intro v0 v2 v3 s hs; simp only [evLoop, Ptableau_echelonL4]
  | succ f ih =>
    intro v0 v2 v3 s hs
    obtain ⟨k0, hk, hn, he, hr⟩ := @lk_all (OV F (D + 5)) 2 F a55L2 f K
    rw [loop_succ, hk, a55L2, runC_cutg, hs]
    clear hs
    simp only [Ptableau_echelonL4]
    clear hk
    by_cases h1 : v2 < v1
    simp -implicitDefEqProofs only [*, -ih, runC_loop, EVA.down, ne_eq, seval]
    rw [ltableau_echelonL2 (D + 5) (by omega) F v0 v2 v1 v2 v3 _ F ((-1) : Int) v0 _ (by simp only [*, -ih, EVA.down, ne_eq, seval]; try rfl)]
    rcases h2 : (Ptableau_echelonL2 v0 v2 v1 v2 v3 F ((-1) : Int) v0) with _ | y1
    rotate_left
    by_cases h3 : y1 < (0 : Int)
    rotate_left
    rcases h4 : (idx v3 y1) with _ | x2
    replace h4 := pkn h4
    rotate_left
    replace h4 := pk_Pl_cells h4
    rcases h5 : (idx v3 v0) with _ | x3
    replace h5 := pkn h5
    rotate_left
    replace h5 := pk_Pl_cells h5
    have h6 : v0.toNat * 4 + 4 ≤ v3.length * 4 := by have := (idx_some h5.1).2.1; omega
    have h7 : splice (enc Pl.cells v3) (v0.toNat * 4) [.i .i64 (x2.N), .i .u64 (U (x2.X)), .i .u64 (U (x2.Z)), .i .i64 (x2.Ph)] = enc Pl.cells ((v3).set v0.toNat x2) := own_put len_Pl_cells h5.1 x2
    rcases h8 : (idx ((v3).set v0.toNat x2) y1) with _ | x4
    have h8o : inb y1 v3.length = false := by have q := idx_out h8; simpa only [List.length_set] using q
    first | exact absurd (show inb y1 v3.length = true by simp only [*, -ih, -h8o]) (by rw [h8o]; exact Bool.false_ne_true) | rotate_left
    have h8i : inb y1 v3.length = true := by have q := idx_inb h8; simpa only [List.length_set] using q
    replace h8 := pk_Pl_cells h8
    have h9 : y1.toNat * 4 + 4 ≤ v3.length * 4 := by have := (idx_some h8.1).2.1; (try simp only [List.length_set] at this); omega
    have h10 : splice (enc Pl.cells ((v3).set v0.toNat x2)) (y1.toNat * 4) [.i .i64 (x3.N), .i .u64 (U (x3.X)), .i .u64 (U (x3.Z)), .i .i64 (x3.Ph)] = enc Pl.cells (((v3).set v0.toNat x2).set y1.toNat x3) := own_put len_Pl_cells h8.1 x3
    simp -implicitDefEqProofs only [*, -ih, runC_loop, EVA.down, ne_eq, seval]
    rw [ltableau_echelonL3 (D + 5) (by omega) F v0 v2 v1 v2 ((v3.length : Nat) : Int) _ F (0 : Int) (((v3).set v0.toNat x2).set y1.toNat x3) _ (by simp only [*, -ih, EVA.down, ne_eq, seval]; try rfl)]
    rcases h11 : (Ptableau_echelonL3 F v0 v2 v1 v2 ((v3.length : Nat) : Int) F (0 : Int) (((v3).set v0.toNat x2).set y1.toNat x3)) with _ | y5
    rotate_left
    have h11l0 : y5.length = v3.length := by have q := ltableau_echelonL3n0_0 F v0 v2 v1 v2 ((v3.length : Nat) : Int) F (0 : Int) (((v3).set v0.toNat x2).set y1.toNat x3) y5 h11; simpa only [List.length_set] using q
    have h11t0 := len_facts h11l0
    rotate_left
    rotate_left
    all_goals simp -implicitDefEqProofs only [*, -ih, EVA.down, ne_eq, seval]
    all_goals exact ih _ _ _ _ (by simp only [*, -ih, EVA.down, ne_eq, seval])

theorem etableau_echelon (D : Nat) (hD : 5 ≤ D) (F : Nat) (a0 : List Pl) (a1 : Int) (q : Bool) : evW 2 (OV F D) F a55 (some [.vs (a0.length) .unk (enc Pl.cells a0), .i .i64 (a1)]) q G0 =
    match Ptableau_echelon F a0 a1 with | none => none | some r0 => some (.vs (r0.length) .unk (enc Pl.cells r0), none) := by
  obtain ⟨D, rfl⟩ : ∃ E, D = E + 5 := ⟨D - 5, by omega⟩
  rw [evW_some, G0]
  simp only [Ptableau_echelon]
  by_cases h1 : a0.length * 32 ≤ 140737488355328
  by_cases h2 : a0 = []
  replace h2 := eq_true h2
  simp -implicitDefEqProofs only [*, a55, k54, runC_loop, EVA.down, ne_eq, seval]
  rw [ltableau_echelonL1 (D + 5) (by omega) F ([]) (0 : Int) (IntKind.i64.wrap ((2 : Int) * a1)) _ F (0 : Int) _ (by simp only [*, a55, k54, EVA.down, ne_eq, seval]; try rfl)]
  rcases h3 : (Ptableau_echelonL1 F ([]) (0 : Int) (IntKind.i64.wrap ((2 : Int) * a1)) F (0 : Int)) with _ | _
  rotate_left
  rotate_left
  simp -implicitDefEqProofs only [*, a55, k54, runC_loop, EVA.down, ne_eq, seval]
  rw [ltableau_echelonL4 (D + 5) (by omega) F (IntKind.i64.wrap ((2 : Int) * a1)) _ F (0 : Int) (0 : Int) a0 _ (by simp only [*, a55, k54, EVA.down, ne_eq, seval]; try rfl)]
  rcases h4 : (Ptableau_echelonL4 F (IntKind.i64.wrap ((2 : Int) * a1)) F (0 : Int) (0 : Int) a0) with _ | y1
  rotate_left
  have h4l0 : y1.length = a0.length := by have q := ltableau_echelonL4n0_0 F (IntKind.i64.wrap ((2 : Int) * a1)) F (0 : Int) (0 : Int) a0 y1 h4; simpa only [List.length_set] using q
  have h4t0 := len_facts h4l0
  rotate_left
  rotate_left
  all_goals simp -implicitDefEqProofs only [*, a55, k54, EVA.down, ne_eq, seval]

theorem vtableau_echelon {D F n : Nat} {args : List AV} {h : AHeap} : OV F (D + 1) 55 args h n (n + 1) = evW 2 (OV F D) F a55 (frzs (frz true 0 (bif AV.nors args then [] else h) 8) args) (AV.nors args) (hglb h 2) := evV_frozen rfl

theorem etableau_echelono (D : Nat) (hD : 5 ≤ D) (F : Nat) (a0 : List Pl) (a1 : Int) (n : Nat) : evX 2 (OV F D) F a55 (some [.vs (a0.length) .unk (enc Pl.cells a0), .i .i64 (a1)]) true G0 n =
    match Ptableau_echelon F a0 a1 with | none => none | some r0 => (match ownS Pl.cells 39 4 (.vs 0 .unk []) r0 n with | (w0, g0, n0) => some (w0, some (g0, n0))) := by
  obtain ⟨D, rfl⟩ : ∃ E, D = E + 5 := ⟨D - 5, by omega⟩
  rw [evX_some, G0]
  simp only [Ptableau_echelon]
  by_cases h1 : a0.length * 32 ≤ 140737488355328
  by_cases h2 : a0 = []
  replace h2 := eq_true h2
  simp -implicitDefEqProofs only [*, a55, k54, runC_loop, EVA.down, ne_eq, seval]
  rw [ltableau_echelonL1 (D + 5) (by omega) F ([]) (0 : Int) (IntKind.i64.wrap ((2 : Int) * a1)) _ F (0 : Int) _ (by simp only [*, a55, k54, EVA.down, ne_eq, seval]; try rfl)]
  rcases h3 : (Ptableau_echelonL1 F ([]) (0 : Int) (IntKind.i64.wrap ((2 : Int) * a1)) F (0 : Int)) with _ | _
  rotate_left
  rotate_left
  simp -implicitDefEqProofs only [*, a55, k54, runC_loop, EVA.down, ne_eq, seval]
  rw [ltableau_echelonL4 (D + 5) (by omega) F (IntKind.i64.wrap ((2 : Int) * a1)) _ F (0 : Int) (0 : Int) a0 _ (by simp only [*, a55, k54, EVA.down, ne_eq, seval]; try rfl)]
  rcases h4 : (Ptableau_echelonL4 F (IntKind.i64.wrap ((2 : Int) * a1)) F (0 : Int) (0 : Int) a0) with _ | y1
  rotate_left
  have h4l0 : y1.length = a0.length := by have q := ltableau_echelonL4n0_0 F (IntKind.i64.wrap ((2 : Int) * a1)) F (0 : Int) (0 : Int) a0 y1 h4; simpa only [List.length_set] using q
  have h4t0 := len_facts h4l0
  rotate_left
  rotate_left
  all_goals simp -implicitDefEqProofs only [*, a55, k54, EVA.down, ne_eq, seval]

theorem vtableau_echelono {D F n : Nat} {args : List AV} {h : AHeap} : OV F (D + 1) 55 args h n n = evX 2 (OV F D) F a55 (frzs (frz true 0 (bif AV.nors args then [] else h) 8) args) (AV.nors args) (hglb h 2) n := evV_own rfl

theorem etableau_Canon (D : Nat) (hD : 6 ≤ D) (F : Nat) (a0_N : Int) (a0_Stab : List Pl) (a0_Destab : List Pl) (q : Bool) : evW 2 (OV F D) F a42 (some [.agg [.i .i64 (a0_N), .vs (a0_Stab.length) .unk (enc Pl.cells a0_Stab), .vs (a0_Destab.length) .unk (enc Pl.cells a0_Destab)]]) q G0 =
    match Ptableau_Canon F a0_N a0_Stab a0_Destab with | none => none | some (r0, r1) => some (.tup [.vs (r0.length) .unk (enc Pl.cells r0), .i .i64 (r1)], none) := by
  obtain ⟨D, rfl⟩ : ∃ E, D = E + 6 := ⟨D - 6, by omega⟩
  have ctableau_Check0 := etableau_Check (D + 5) (by omega) F
  have ctableau_echelono0 := etableau_echelono (D + 5) (by omega) F
  rw [evW_some, G0]
  simp only [Ptableau_Canon]
  rcases h1 : (Ptableau_Check F a0_N a0_Stab a0_Destab) with _ | r1
  rotate_left
  by_cases h2 : r1 = (0 : Int)
  replace h2 := eq_true h2
  rcases h3 : (Ptableau_echelon F a0_Stab a0_N) with _ | r2
  rotate_left
  by_cases h4 : r2 = []
  replace h4 := eq_true h4
  rotate_left
  rotate_left
  rotate_left
  all_goals simp -implicitDefEqProofs only [*, a42, vtableau_Check, vtableau_echelono, EVA.down, ne_eq, seval]

theorem vtableau_Canon {D F n : Nat} {args : List AV} {h : AHeap} : OV F (D + 1) 42 args h n (n + 1) = evW 2 (OV F D) F a42 (frzs (frz true 0 (bif AV.nors args then [] else h) 8) args) (AV.nors args) (hglb h 2) := evV_frozen rfl

theorem etableau_Canono (D : Nat) (hD : 6 ≤ D) (F : Nat) (a0_N : Int) (a0_Stab : List Pl) (a0_Destab : List Pl) (n : Nat) : evX 2 (OV F D) F a42 (some [.agg [.i .i64 (a0_N), .vs (a0_Stab.length) .unk (enc Pl.cells a0_Stab), .vs (a0_Destab.length) .unk (enc Pl.cells a0_Destab)]]) true G0 n =
    match Ptableau_Canon F a0_N a0_Stab a0_Destab with | none => none | some (r0, r1) => (match ownS Pl.cells 39 4 (.vs 0 .unk []) r0 n with | (w0, g0, n0) => some (.tup [w0, .i .i64 (r1)], some (g0, n0))) := by
  obtain ⟨D, rfl⟩ : ∃ E, D = E + 6 := ⟨D - 6, by omega⟩
  have ctableau_Check0 := etableau_Check (D + 5) (by omega) F
  have ctableau_echelono0 := etableau_echelono (D + 5) (by omega) F
  rw [evX_some, G0]
  simp only [Ptableau_Canon]
  rcases h1 : (Ptableau_Check F a0_N a0_Stab a0_Destab) with _ | r1
  rotate_left
  by_cases h2 : r1 = (0 : Int)
  replace h2 := eq_true h2
  rcases h3 : (Ptableau_echelon F a0_Stab a0_N) with _ | r2
  rotate_left
  by_cases h4 : r2 = []
  replace h4 := eq_true h4
  rotate_left
  rotate_left
  rotate_left
  all_goals simp -implicitDefEqProofs only [*, a42, vtableau_Check, vtableau_echelono, EVA.down, ne_eq, seval]

theorem vtableau_Canono {D F n : Nat} {args : List AV} {h : AHeap} : OV F (D + 1) 42 args h n n = evX 2 (OV F D) F a42 (frzs (frz true 0 (bif AV.nors args then [] else h) 8) args) (AV.nors args) (hglb h 2) n := evV_own rfl

theorem lslices_Equal_PauliL0 (D : Nat) (hD : 0 ≤ D) (F : Nat) (v0 : List Pl) (v1 : List Pl) (v2 : Int) (K : AE → AS → Option Res) : ∀ (f : Nat) (v3 : Int) (s : AS), s.keep [0, 1, 12, 13] [] = some ⟨[(0, .vs (v0.length) .unk (enc Pl.cells v0)), (1, .vs (v1.length) .unk (enc Pl.cells v1)), (12, .i .i64 (v2)), (13, .i .i64 (v3))], [], [(0, tab64)], 2⟩ →
    evLoop (evC (OV F D) 2 F a46L0) f s K = match Pslices_Equal_PauliL0 v0 v1 v2 f v3 with | none => none | some (.inl _) => K .ret ⟨[(4, .b (false))], [], [(0, tab64)], 2⟩ | some (.inr _) => K (.ex 0) ⟨[], [], [(0, tab64)], 2⟩ := by
  intro f
  induction f with
  | zero => intro v3 s hs; simp only [evLoop, Pslices_Equal_PauliL0]
  | succ f ih =>
    intro v3 s hs
    obtain ⟨k0, hk, hn, he, hr⟩ := @lk_all (OV F (D)) 2 F a46L0 f K
    rw [loop_succ, hk, a46L0, runC_cut, hs]
    clear hs
    simp only [Pslices_Equal_PauliL0]
    clear hk
    by_cases h1 : v3 < v2
    rcases h2 : (idx v0 v3) with _ | x1
    replace h2 := pkn h2
    rotate_left
    replace h2 := pk_Pl_cells h2
    rcases h3 : (idx v1 v3) with _ | x2
    replace h3 := pkn h3
    rotate_left
    replace h3 := pk_Pl_cells h3
    rcases h4 : ((decide (x1.N = x2.N) && (decide (x1.X = x2.X) && (decide (x1.Z = x2.Z) && decide (x1.Ph = x2.Ph))))) with _ | _
    rotate_left
    rotate_left
    rotate_left
    all_goals simp -implicitDefEqProofs only [*, -ih, EVA.down, ne_eq, seval]
    all_goals exact ih _ _ (by simp only [*, -ih, EVA.down, ne_eq, seval])

theorem eslices_Equal_Pauli (D : Nat) (hD : 0 ≤ D) (F : Nat) (a0 : List Pl) (a1 : List Pl) (q : Bool) : evW 2 (OV F D) F a46 (some [.vs (a0.length) .unk (enc Pl.cells a0), .vs (a1.length) .unk (enc Pl.cells a1)]) q G0 =
    match Pslices_Equal_Pauli F a0 a1 with | none => none | some r0 => some (.b (r0), none) := by
  rw [evW_some, G0]
  simp only [Pslices_Equal_Pauli]
  by_cases h1 : (a0.length : Int) = (a1.length : Int)
  replace h1 := eq_true h1
  simp -implicitDefEqProofs only [*, a46, runC_loop, EVA.down, ne_eq, seval]
  rw [lslices_Equal_PauliL0 (D) (by omega) F a0 a1 (a0.length : Int) _ F (0 : Int) _ (by simp only [*, a46, EVA.down, ne_eq, seval]; try rfl)]
  rcases h2 : (Pslices_Equal_PauliL0 a0 a1 (a0.length : Int) F (0 : Int)) with _ | (_ | _)
  rotate_left
  rotate_left
  rotate_left
  rotate_left
  all_goals simp -implicitDefEqProofs only [*, a46, EVA.down, ne_eq, seval]

theorem vslices_Equal_Pauli {D F n : Nat} {args : List AV} {h : AHeap} : OV F (D + 1) 46 args h n (n + 1) = evW 2 (OV F D) F a46 (frzs (frz true 0 (bif AV.nors args then [] else h) 8) args) (AV.nors args) (hglb h 2) := evV_frozen rfl

theorem etableau_Same (D : Nat) (hD : 7 ≤ D) (F : Nat) (a0_N : Int) (a0_Stab : List Pl) (a0_Destab : List Pl) (a1_N : Int) (a1_Stab : List Pl) (a1_Destab : List Pl) (q : Bool) : evW 2 (OV F D) F a19 (some [.agg [.i .i64 (a0_N), .vs (a0_Stab.length) .unk (enc Pl.cells a0_Stab), .vs (a0_Destab.length) .unk (enc Pl.cells a0_Destab)], .agg [.i .i64 (a1_N), .vs (a1_Stab.length) .unk (enc Pl.cells a1_Stab), .vs (a1_Destab.length) .unk (enc Pl.cells a1_Destab)]]) q G0 =
    match Ptableau_Same F a0_N a0_Stab a0_Destab a1_N a1_Stab a1_Destab with | none => none | some r0 => some (.b (r0), none) := by
  obtain ⟨D, rfl⟩ : ∃ E, D = E + 7 := ⟨D - 7, by omega⟩
  have ctableau_Canon0 := etableau_Canon (D + 6) (by omega) F
  have cslices_Equal_Pauli0 := eslices_Equal_Pauli (D + 6) (by omega) F
  rw [evW_some, G0]
  simp only [Ptableau_Same]
  rcases h1 : (Ptableau_Canon F a0_N a0_Stab a0_Destab) with _ | ⟨r1, r2⟩
  rotate_left
  rcases h2 : (Ptableau_Canon F a1_N a1_Stab a1_Destab) with _ | ⟨r3, r4⟩
  rotate_left
  by_cases h3 : r2 = (0 : Int)
  replace h3 := eq_true h3
  by_cases h4 : r4 = (0 : Int)
  replace h4 := eq_true h4
  by_cases h5 : a0_N = a1_N
  replace h5 := eq_true h5
  rcases h6 : (Pslices_Equal_Pauli F r1 r3) with _ | r5
  rotate_left
  rotate_left
  rotate_left
  rotate_left
  rotate_left
  all_goals simp -implicitDefEqProofs only [*, a19, vtableau_Canon, vslices_Equal_Pauli, EVA.down, ne_eq, seval]

theorem vtableau_Same {D F n : Nat} {args : List AV} {h : AHeap} : OV F (D + 1) 19 args h n (n + 1) = evW 2 (OV F D) F a19 (frzs (frz true 0 (bif AV.nors args then [] else h) 8) args) (AV.nors args) (hglb h 2) := evV_frozen rfl

theorem elaw14_TableauCanon (D : Nat) (hD : 8 ≤ D) (F : Nat) (a0_N : Int) (a0_Stab : List Pl) (a0_Destab : List Pl) (a1 : Int) (a2 : Int) (q : Bool) : evW 2 (OV F D) F a4 (some [.agg [.i .i64 (a0_N), .vs (a0_Stab.length) .unk (enc Pl.cells a0_Stab), .vs (a0_Destab.length) .unk (enc Pl.cells a0_Destab)], .i .i64 (a1), .i .i64 (a2)]) q G0 =
    match Plaw14_TableauCanon F a0_N a0_Stab a0_Destab a1 a2 with | none => none | some r0 => some (.b (r0), none) := by
  obtain ⟨D, rfl⟩ : ∃ E, D = E + 8 := ⟨D - 8, by omega⟩
  have claw14_num0 := elaw14_num (D + 7) (by omega) F
  have ctableau_Check0 := etableau_Check (D + 7) (by omega) F
  have cref14_Copyo0 := eref14_Copyo (D + 7) (by omega) F
  have cpauli_Mul0 := epauli_Mul (D + 7) (by omega) F
  have ctableau_Same0 := etableau_Same (D + 7) (by omega) F
  have ctableau_Check0_l1_2 : ∀ (a0_N : Int) (a0_Stab : List Pl) (a0_Destab : List Pl) (q : Bool) (m1 : Nat) (_ : m1 = a0_Stab.length) (m2 : Nat) (_ : m2 = a0_Destab.length), evW 2 (OV F (D + 7)) F a14 (some [.agg [.i .i64 (a0_N), .vs m1 .unk (enc Pl.cells a0_Stab), .vs m2 .unk (enc Pl.cells a0_Destab)]]) q G0 = match Ptableau_Check F a0_N a0_Stab a0_Destab with | none => none | some r0 => some (.i .i64 (r0), none) := by
    intro a0_N a0_Stab a0_Destab q m1 hm1 m2 hm2
    subst hm1
    subst hm2
    exact etableau_Check (D + 7) (by omega) F a0_N a0_Stab a0_Destab q
  have ctableau_Same0_l4_5 : ∀ (a0_N : Int) (a0_Stab : List Pl) (a0_Destab : List Pl) (a1_N : Int) (a1_Stab : List Pl) (a1_Destab : List Pl) (q : Bool) (m4 : Nat) (_ : m4 = a1_Stab.length) (m5 : Nat) (_ : m5 = a1_Destab.length), evW 2 (OV F (D + 7)) F a19 (some [.agg [.i .i64 (a0_N), .vs (a0_Stab.length) .unk (enc Pl.cells a0_Stab), .vs (a0_Destab.length) .unk (enc Pl.cells a0_Destab)], .agg [.i .i64 (a1_N), .vs m4 .unk (enc Pl.cells a1_Stab), .vs m5 .unk (enc Pl.cells a1_Destab)]]) q G0 = match Ptableau_Same F a0_N a0_Stab a0_Destab a1_N a1_Stab a1_Destab with | none => none | some r0 => some (.b (r0), none) := by
    intro a0_N a0_Stab a0_Destab a1_N a1_Stab a1_Destab q m4 hm4 m5 hm5
    subst hm4
    subst hm5
    exact etableau_Same (D + 7) (by omega) F a0_N a0_Stab a0_Destab a1_N a1_Stab a1_Destab q
  rw [evW_some, G0]
  simp only [Plaw14_TableauCanon]
  rcases h1 : (Ptableau_Check F a0_N a0_Stab a0_Destab) with _ | r1
  rotate_left
  by_cases h2 : (Plaw14_num r1) = (0 : Int)
  replace h2 := eq_true h2
  by_cases h3 : a0_N < (2 : Int)
  rotate_left
  by_cases h4 : (BitVec.ofInt 64 a0_N) = 0#64
  replace h4 := eq_true h4
  rotate_left
  by_cases h5 : (((BitVec.ofInt 64 a1) % (BitVec.ofInt 64 a0_N)).toInt) = (((BitVec.ofInt 64 a2) % (BitVec.ofInt 64 a0_N)).toInt)
  replace h5 := eq_true h5
  rotate_left
  rcases h6 : (Pref14_Copy a0_N a0_Stab a0_Destab) with _ | ⟨r2, r3, r4⟩
  rotate_left
  by_cases h7 : r3 = []
  replace h7 := eq_true h7
  by_cases h8 : r4 = []
  replace h8 := eq_true h8
  rcases h9 : (idx a0_Stab (((BitVec.ofInt 64 a1) % (BitVec.ofInt 64 a0_N)).toInt)) with _ | x5
  replace h9 := pkn h9
  rotate_left
  replace h9 := pk_Pl_cells h9
  rcases h10 : (idx a0_Stab (((BitVec.ofInt 64 a2) % (BitVec.ofInt 64 a0_N)).toInt)) with _ | x6
  replace h10 := pkn h10
  rotate_left
  replace h10 := pk_Pl_cells h10
  rcases h11 : (Ppauli_Mul F x5.N x5.X x5.Z x5.Ph x6.N x6.X x6.Z x6.Ph) with _ | ⟨r7, r8, r9, r10, r11⟩
  rotate_left
  rcases h12 : (idx a0_Destab (((BitVec.ofInt 64 a2) % (BitVec.ofInt 64 a0_N)).toInt)) with _ | x12
  replace h12 := pkn h12
  rotate_left
  replace h12 := pk_Pl_cells h12
  rcases h13 : (idx a0_Destab (((BitVec.ofInt 64 a1) % (BitVec.ofInt 64 a0_N)).toInt)) with _ | x13
  replace h13 := pkn h13
  rotate_left
  replace h13 := pk_Pl_cells h13
  rcases h14 : (Ppauli_Mul F x12.N x12.X x12.Z x12.Ph x13.N x13.X x13.Z x13.Ph) with _ | ⟨r14, r15, r16, r17, r18⟩
  rotate_left
  by_cases h15 : (Plaw14_num r11) = (0 : Int)
  replace h15 := eq_true h15
  by_cases h16 : (Plaw14_num r18) = (0 : Int)
  replace h16 := eq_true h16
  have h17 : inb (((BitVec.ofInt 64 a1) % (BitVec.ofInt 64 a0_N)).toInt) 0 = false := by simp only [inb, Bool.and_eq_false_iff, decide_eq_false_iff_not]; omega
  rotate_left
  rotate_left
  rotate_left
  rcases h18 : (idx a0_Stab (((BitVec.ofInt 64 a1) % (BitVec.ofInt 64 a0_N)).toInt)) with _ | x19
  replace h18 := pkn h18
  rotate_left
  replace h18 := pk_Pl_cells h18
  rcases h19 : (idx a0_Stab (((BitVec.ofInt 64 a2) % (BitVec.ofInt 64 a0_N)).toInt)) with _ | x20
  replace h19 := pkn h19
  rotate_left
  replace h19 := pk_Pl_cells h19
  rcases h20 : (Ppauli_Mul F x19.N x19.X x19.Z x19.Ph x20.N x20.X x20.Z x20.Ph) with _ | ⟨r21, r22, r23, r24, r25⟩
  rotate_left
  rcases h21 : (idx a0_Destab (((BitVec.ofInt 64 a2) % (BitVec.ofInt 64 a0_N)).toInt)) with _ | x26
  replace h21 := pkn h21
  rotate_left
  replace h21 := pk_Pl_cells h21
  rcases h22 : (idx a0_Destab (((BitVec.ofInt 64 a1) % (BitVec.ofInt 64 a0_N)).toInt)) with _ | x27
  replace h22 := pkn h22
  rotate_left
  replace h22 := pk_Pl_cells h22
  rcases h23 : (Ppauli_Mul F x26.N x26.X x26.Z x26.Ph x27.N x27.X x27.Z x27.Ph) with _ | ⟨r28, r29, r30, r31, r32⟩
  rotate_left
  by_cases h24 : (Plaw14_num r25) = (0 : Int)
  replace h24 := eq_true h24
  by_cases h25 : (Plaw14_num r32) = (0 : Int)
  replace h25 := eq_true h25
  have h26 : inb (((BitVec.ofInt 64 a1) % (BitVec.ofInt 64 a0_N)).toInt) 0 = false := by simp only [inb, Bool.and_eq_false_iff, decide_eq_false_iff_not]; omega
  rotate_left
  rotate_left
  rotate_left
  by_cases h27 : r4 = []
  replace h27 := eq_true h27
  rcases h28 : (idx a0_Stab (((BitVec.ofInt 64 a1) % (BitVec.ofInt 64 a0_N)).toInt)) with _ | x33
  replace h28 := pkn h28
  rotate_left
  replace h28 := pk_Pl_cells h28
  rcases h29 : (idx a0_Stab (((BitVec.ofInt 64 a2) % (BitVec.ofInt 64 a0_N)).toInt)) with _ | x34
  replace h29 := pkn h29
  rotate_left
  replace h29 := pk_Pl_cells h29
  rcases h30 : (Ppauli_Mul F x33.N x33.X x33.Z x33.Ph x34.N x34.X x34.Z x34.Ph) with _ | ⟨r35, r36, r37, r38, r39⟩
  rotate_left
  rcases h31 : (idx a0_Destab (((BitVec.ofInt 64 a2) % (BitVec.ofInt 64 a0_N)).toInt)) with _ | x40
  replace h31 := pkn h31
  rotate_left
  replace h31 := pk_Pl_cells h31
  rcases h32 : (idx a0_Destab (((BitVec.ofInt 64 a1) % (BitVec.ofInt 64 a0_N)).toInt)) with _ | x41
  replace h32 := pkn h32
  rotate_left
  replace h32 := pk_Pl_cells h32
  rcases h33 : (Ppauli_Mul F x40.N x40.X x40.Z x40.Ph x41.N x41.X x41.Z x41.Ph) with _ | ⟨r42, r43, r44, r45, r46⟩
  rotate_left
  by_cases h34 : (Plaw14_num r39) = (0 : Int)
  replace h34 := eq_true h34
  by_cases h35 : (Plaw14_num r46) = (0 : Int)
  replace h35 := eq_true h35
  rcases h36 : (idx r3 (((BitVec.ofInt 64 a1) % (BitVec.ofInt 64 a0_N)).toInt)) with _ | x47
  replace h36 := pkn h36
  rotate_left
  replace h36 := pk_Pl_cells h36
  have h37 : (((BitVec.ofInt 64 a1) % (BitVec.ofInt 64 a0_N)).toInt).toNat * 4 + 4 ≤ r3.length * 4 := by have := (idx_some h36.1).2.1; omega
  have h38 : splice (enc Pl.cells r3) ((((BitVec.ofInt 64 a1) % (BitVec.ofInt 64 a0_N)).toInt).toNat * 4) [.i .i64 (r35), .i .u64 (U (r36)), .i .u64 (U (r37)), .i .i64 (r38)] = enc Pl.cells ((r3).set (((BitVec.ofInt 64 a1) % (BitVec.ofInt 64 a0_N)).toInt).toNat (⟨r35, r36, r37, r38⟩ : Pl)) := own_put len_Pl_cells h36.1 (⟨r35, r36, r37, r38⟩ : Pl)
  have h39 : inb (((BitVec.ofInt 64 a2) % (BitVec.ofInt 64 a0_N)).toInt) 0 = false := by simp only [inb, Bool.and_eq_false_iff, decide_eq_false_iff_not]; omega
  rotate_left
  rotate_left
  rotate_left
  rcases h40 : (idx a0_Stab (((BitVec.ofInt 64 a1) % (BitVec.ofInt 64 a0_N)).toInt)) with _ | x48
  replace h40 := pkn h40
  rotate_left
  replace h40 := pk_Pl_cells h40
  rcases h41 : (idx a0_Stab (((BitVec.ofInt 64 a2) % (BitVec.ofInt 64 a0_N)).toInt)) with _ | x49
  replace h41 := pkn h41
  rotate_left
  replace h41 := pk_Pl_cells h41
  rcases h42 : (Ppauli_Mul F x48.N x48.X x48.Z x48.Ph x49.N x49.X x49.Z x49.Ph) with _ | ⟨r50, r51, r52, r53, r54⟩
  rotate_left
  rcases h43 : (idx a0_Destab (((BitVec.ofInt 64 a2) % (BitVec.ofInt 64 a0_N)).toInt)) with _ | x55
  replace h43 := pkn h43
  rotate_left
  replace h43 := pk_Pl_cells h43
  rcases h44 : (idx a0_Destab (((BitVec.ofInt 64 a1) % (BitVec.ofInt 64 a0_N)).toInt)) with _ | x56
  replace h44 := pkn h44
  rotate_left
  replace h44 := pk_Pl_cells h44
  rcases h45 : (Ppauli_Mul F x55.N x55.X x55.Z x55.Ph x56.N x56.X x56.Z x56.Ph) with _ | ⟨r57, r58, r59, r60, r61⟩
  rotate_left
  by_cases h46 : (Plaw14_num r54) = (0 : Int)
  replace h46 := eq_true h46
  by_cases h47 : (Plaw14_num r61) = (0 : Int)
  replace h47 := eq_true h47
  rcases h48 : (idx r3 (((BitVec.ofInt 64 a1) % (BitVec.ofInt 64 a0_N)).toInt)) with _ | x62
  replace h48 := pkn h48
  rotate_left
  replace h48 := pk_Pl_cells h48
  have h49 : (((BitVec.ofInt 64 a1) % (BitVec.ofInt 64 a0_N)).toInt).toNat * 4 + 4 ≤ r3.length * 4 := by have := (idx_some h48.1).2.1; omega
  have h50 : splice (enc Pl.cells r3) ((((BitVec.ofInt 64 a1) % (BitVec.ofInt 64 a0_N)).toInt).toNat * 4) [.i .i64 (r50), .i .u64 (U (r51)), .i .u64 (U (r52)), .i .i64 (r53)] = enc Pl.cells ((r3).set (((BitVec.ofInt 64 a1) % (BitVec.ofInt 64 a0_N)).toInt).toNat (⟨r50, r51, r52, r53⟩ : Pl)) := own_put len_Pl_cells h48.1 (⟨r50, r51, r52, r53⟩ : Pl)
  rcases h51 : (idx r4 (((BitVec.ofInt 64 a2) % (BitVec.ofInt 64 a0_N)).toInt)) with _ | x63
  replace h51 := pkn h51
  rotate_left
  replace h51 := pk_Pl_cells h51
  have h52 : (((BitVec.ofInt 64 a2) % (BitVec.ofInt 64 a0_N)).toInt).toNat * 4 + 4 ≤ r4.length * 4 := by have := (idx_some h51.1).2.1; omega
  have h53 : splice (enc Pl.cells r4) ((((BitVec.ofInt 64 a2) % (BitVec.ofInt 64 a0_N)).toInt).toNat * 4) [.i .i64 (r57), .i .u64 (U (r58)), .i .u64 (U (r59)), .i .i64 (r60)] = enc Pl.cells ((r4).set (((BitVec.ofInt 64 a2) % (BitVec.ofInt 64 a0_N)).toInt).toNat (⟨r57, r58, r59, r60⟩ : Pl)) := own_put len_Pl_cells h51.1 (⟨r57, r58, r59, r60⟩ : Pl)
  rcases h54 : (idx r4 (((BitVec.ofInt 64 a1) % (BitVec.ofInt 64 a0_N)).toInt)) with _ | x64
  replace h54 := pkn h54
  rotate_left
  replace h54 := pk_Pl_cells h54
  rcases h55 : (idx r3 (((BitVec.ofInt 64 a2) % (BitVec.ofInt 64 a0_N)).toInt)) with _ | x65
  replace h55 := pkn h55
  rotate_left
  replace h55 := pk_Pl_cells h55
  have h56 : splice (enc Pl.cells r3) ((((BitVec.ofInt 64 a1) % (BitVec.ofInt 64 a0_N)).toInt).toNat * 4) [.i .i64 (x65.N), .i .u64 (U (x65.X)), .i .u64 (U (x65.Z)), .i .i64 (x65.Ph)] = enc Pl.cells ((r3).set (((BitVec.ofInt 64 a1) % (BitVec.ofInt 64 a0_N)).toInt).toNat x65) := own_put len_Pl_cells h48.1 x65
  have h57 : (((BitVec.ofInt 64 a1) % (BitVec.ofInt 64 a0_N)).toInt).toNat * 4 + 4 ≤ r4.length * 4 := by have := (idx_some h54.1).2.1; omega
  have h58 : splice (enc Pl.cells r4) ((((BitVec.ofInt 64 a1) % (BitVec.ofInt 64 a0_N)).toInt).toNat * 4) [.i .i64 (x63.N), .i .u64 (U (x63.X)), .i .u64 (U (x63.Z)), .i .i64 (x63.Ph)] = enc Pl.cells ((r4).set (((BitVec.ofInt 64 a1) % (BitVec.ofInt 64 a0_N)).toInt).toNat x63) := own_put len_Pl_cells h54.1 x63
  rcases h59 : (idx ((r3).set (((BitVec.ofInt 64 a1) % (BitVec.ofInt 64 a0_N)).toInt).toNat x65) (((BitVec.ofInt 64 a2) % (BitVec.ofInt 64 a0_N)).toInt)) with _ | x66
  have h59o : inb (((BitVec.ofInt 64 a2) % (BitVec.ofInt 64 a0_N)).toInt) r3.length = false := by have q := idx_out h59; simpa only [List.length_set] using q
  first | exact absurd (show inb (((BitVec.ofInt 64 a2) % (BitVec.ofInt 64 a0_N)).toInt) r3.length = true by simp only [*, -h59o]) (by rw [h59o]; exact Bool.false_ne_true) | rotate_left
  have h59i : inb (((BitVec.ofInt 64 a2) % (BitVec.ofInt 64 a0_N)).toInt) r3.length = true := by have q := idx_inb h59; simpa only [List.length_set] using q
  replace h59 := pk_Pl_cells h59
  have h60 : (((BitVec.ofInt 64 a2) % (BitVec.ofInt 64 a0_N)).toInt).toNat * 4 + 4 ≤ r3.length * 4 := by have := (idx_some h59.1).2.1; (try simp only [List.length_set] at this); omega
  have h61 : splice (enc Pl.cells ((r3).set (((BitVec.ofInt 64 a1) % (BitVec.ofInt 64 a0_N)).toInt).toNat x65)) ((((BitVec.ofInt 64 a2) % (BitVec.ofInt 64 a0_N)).toInt).toNat * 4) [.i .i64 (x62.N), .i .u64 (U (x62.X)), .i .u64 (U (x62.Z)), .i .i64 (x62.Ph)] = enc Pl.cells (((r3).set (((BitVec.ofInt 64 a1) % (BitVec.ofInt 64 a0_N)).toInt).toNat x65).set (((BitVec.ofInt 64 a2) % (BitVec.ofInt 64 a0_N)).toInt).toNat x62) := own_put len_Pl_cells h59.1 x62
  rcases h62 : (idx ((r4).set (((BitVec.ofInt 64 a1) % (BitVec.ofInt 64 a0_N)).toInt).toNat x63) (((BitVec.ofInt 64 a2) % (BitVec.ofInt 64 a0_N)).toInt)) with _ | x67
  have h62o : inb (((BitVec.ofInt 64 a2) % (BitVec.ofInt 64 a0_N)).toInt) r4.length = false := by have q := idx_out h62; simpa only [List.length_set] using q
  first | exact absurd (show inb (((BitVec.ofInt 64 a2) % (BitVec.ofInt 64 a0_N)).toInt) r4.length = true by simp only [*, -h62o]) (by rw [h62o]; exact Bool.false_ne_true) | rotate_left
  have h62i : inb (((BitVec.ofInt 64 a2) % (BitVec.ofInt 64 a0_N)).toInt) r4.length = true := by have q := idx_inb h62; simpa only [List.length_set] using q
  replace h62 := pk_Pl_cells h62
  have h63 : splice (enc Pl.cells ((r4).set (((BitVec.ofInt 64 a1) % (BitVec.ofInt 64 a0_N)).toInt).toNat x63)) ((((BitVec.ofInt 64 a2) % (BitVec.ofInt 64 a0_N)).toInt).toNat * 4) [.i .i64 (x64.N), .i .u64 (U (x64.X)), .i .u64 (U (x64.Z)), .i .i64 (x64.Ph)] = enc Pl.cells (((r4).set (((BitVec.ofInt 64 a1) % (BitVec.ofInt 64 a0_N)).toInt).toNat x63).set (((BitVec.ofInt 64 a2) % (BitVec.ofInt 64 a0_N)).toInt).toNat x64) := own_put len_Pl_cells h62.1 x64
  rcases h64 : (Ptableau_Check F r2 ((r3).set (((BitVec.ofInt 64 a1) % (BitVec.ofInt 64 a0_N)).toInt).toNat (⟨r50, r51, r52, r53⟩ : Pl)) ((r4).set (((BitVec.ofInt 64 a2) % (BitVec.ofInt 64 a0_N)).toInt).toNat (⟨r57, r58, r59, r60⟩ : Pl))) with _ | r68
  rotate_left
  by_cases h65 : (Plaw14_num r68) = (0 : Int)
  replace h65 := eq_true h65
  rcases h66 : (Ptableau_Check F r2 (((r3).set (((BitVec.ofInt 64 a1) % (BitVec.ofInt 64 a0_N)).toInt).toNat x65).set (((BitVec.ofInt 64 a2) % (BitVec.ofInt 64 a0_N)).toInt).toNat x62) (((r4).set (((BitVec.ofInt 64 a1) % (BitVec.ofInt 64 a0_N)).toInt).toNat x63).set (((BitVec.ofInt 64 a2) % (BitVec.ofInt 64 a0_N)).toInt).toNat x64)) with _ | r69
  rotate_left
  by_cases h67 : (Plaw14_num r69) = (0 : Int)
  replace h67 := eq_true h67
  rcases h68 : (Ptableau_Same F a0_N a0_Stab a0_Destab r2 ((r3).set (((BitVec.ofInt 64 a1) % (BitVec.ofInt 64 a0_N)).toInt).toNat (⟨r50, r51, r52, r53⟩ : Pl)) ((r4).set (((BitVec.ofInt 64 a2) % (BitVec.ofInt 64 a0_N)).toInt).toNat (⟨r57, r58, r59, r60⟩ : Pl))) with _ | r70
  rotate_left
  rcases h69 : (r70) with _ | _
  rotate_left
  rcases h70 : (Ptableau_Same F a0_N a0_Stab a0_Destab r2 (((r3).set (((BitVec.ofInt 64 a1) % (BitVec.ofInt 64 a0_N)).toInt).toNat x65).set (((BitVec.ofInt 64 a2) % (BitVec.ofInt 64 a0_N)).toInt).toNat x62) (((r4).set (((BitVec.ofInt 64 a1) % (BitVec.ofInt 64 a0_N)).toInt).toNat x63).set (((BitVec.ofInt 64 a2) % (BitVec.ofInt 64 a0_N)).toInt).toNat x64)) with _ | r71
  rotate_left
  rcases h71 : (r71) with _ | _
  rotate_left
  rotate_left
  rotate_left
  rotate_left
  rotate_left
  rotate_left
  rotate_left
  all_goals simp -implicitDefEqProofs (maxSteps := 4000000) only [*, a4, vlaw14_num, vtableau_Check, vref14_Copyo, vpauli_Mul, vtableau_Same, k16, EVA.down, ne_eq, seval]

theorem vlaw14_TableauCanon {D F n : Nat} {args : List AV} {h : AHeap} : OV F (D + 1) 4 args h n (n + 1) = evW 2 (OV F D) F a4 (frzs (frz true 0 (bif AV.nors args then [] else h) 8) args) (AV.nors args) (hglb h 2) := evV_frozen rfl
end Go.Proofs.YtogkkamlmklpkaaDoor.Ab
