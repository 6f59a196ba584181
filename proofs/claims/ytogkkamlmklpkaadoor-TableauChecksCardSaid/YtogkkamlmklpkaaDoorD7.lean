import Derived.Test.YtogkkamlmklpkaaDoorD6
set_option maxRecDepth 100000
set_option linter.unusedVariables false
set_option linter.unusedSimpArgs false
namespace Go.Proofs.YtogkkamlmklpkaaDoor.Ab
open Go
theorem f11 : fs 11 = some a11 := rfl
theorem f12 : fs 12 = some a12 := rfl
def cellsOf (l : List Pl) : List AV := (l.map Pl.cells).flatten
theorem cellsOf_length (l : List Pl) : (cellsOf l).length = l.length * 4 := by
  induction l with
  | nil => rfl
  | cons p l ih =>
    simp only [cellsOf, List.map_cons, List.flatten_cons, List.length_append, List.length_cons] at ih ⊢
    rw [ih]; simp [Pl.cells]; omega
theorem cellsOf_snoc (l : List Pl) (p : Pl) : cellsOf (l ++ [p]) = cellsOf l ++ p.cells := by simp [cellsOf]
/-- A slice of strings in memory of its own: made by appending. -/
def Own (h : AHeap) (fl n : Nat) (a : Option Nat) (l : List Pl) : Prop := match a with
  | none => l = []
  | some id => fl ≤ id ∧ id < n ∧ hget h id = some ⟨true, true, 39, cellsOf l⟩
def slOf (a : Option Nat) (l : List Pl) : AV := match a with
  | none => .sl none 0 (.ex 0)
  | some id => .sl (some (id, 0)) l.length .op
def zAt (N q : Nat) : Pl := ⟨N, 0#64, 1#64 <<< q, 0⟩
def xAt (N q : Nat) : Pl := ⟨N, 1#64 <<< q, 0#64, 0⟩
def zs (N q : Nat) : List Pl := (List.range q).map (zAt N)
def xs (N q : Nat) : List Pl := (List.range q).map (xAt N)
theorem zs_succ (N q : Nat) : zs N (q + 1) = zs N q ++ [zAt N q] := by simp [zs, List.range_succ]
theorem xs_succ (N q : Nat) : xs N (q + 1) = xs N q ++ [xAt N q] := by simp [xs, List.range_succ]
theorem zs_length (N q : Nat) : (zs N q).length = q := by simp [zs]
theorem xs_length (N q : Nat) : (xs N q).length = q := by simp [xs]
theorem shl_ui (a : BitVec 64) (q : Nat) : abin .shl (.i .u64 (U a)) (.i .i64 (q : Int)) = some (.i .u64 (U (a <<< q))) := by rw [bin_shl_u (by omega), Int.toNat_natCast]

theorem let1_z (N q : Nat) (h : q ≤ 64) : let1 N q false = zAt N q := by
  have : (BitVec.ofInt 64 (q : Int)).toNat = q := by simp; omega
  simp only [let1, cond_false, zAt, this]
theorem let1_x (N q : Nat) (h : q ≤ 64) : let1 N q true = xAt N q := by
  have : (BitVec.ofInt 64 (q : Int)).toNat = q := by simp; omega
  simp only [let1, cond_true, xAt, this]
theorem n011 (O : Orc) (F fl n : Nat) (h : AHeap) (N : Nat) (r2 : List AV) (hq : 0 < N) (hN : N ≤ 64) (hfl : fl ≤ n) (K : AE → AS → Option Res) :
    ∃ h', Own h' fl (n + 4) (some (n + 1)) (zs N 1) ∧ Own h' fl (n + 4) (some (n + 3)) (xs N 1) ∧ (∀ i, i < fl → hget h' i = hget h i) ∧ ∀ (R : Option Res) (f : Nat)
    (next : ∀ s : AS, s.keep [0, 2, 4, 15, 16] [2, 4] = some ⟨[(0, .i .i64 N), (2, .lp 2 0), (4, .lp 4 0), (15, .i .i64 N), (16, .i .i64 ((1 : Nat) : Int))], [(2, r2), (4, [.i .i64 N, slOf (some (n + 1)) (zs N 1), slOf (some (n + 3)) (xs N 1)])], h', n + 4⟩ → evLoop (evC O fl F a11L0) f s K = R) (s : AS)
    (hs : s.keep [0, 2, 4, 15, 16] [2, 4] = some ⟨[(0, .i .i64 N), (2, .lp 2 0), (4, .lp 4 0), (15, .i .i64 N), (16, .i .i64 0)], [(2, r2), (4, [.i .i64 N, slOf none (zs N 0), slOf none (xs N 0)])], h, n⟩),
    evLoop (evC O fl F a11L0) (f + 1) s K = R := by
  refine ⟨happly (happly (happly (happly h [(n, some ⟨true, false, 39, (zAt N 0).cells⟩)]) [(n + 1, some ⟨true, true, 39, (zAt N 0).cells⟩)]) [(n + 2, some ⟨true, false, 39, (xAt N 0).cells⟩)]) [(n + 3, some ⟨true, true, 39, (xAt N 0).cells⟩)], ?_, ?_, ?_, ?_⟩
  · refine ⟨by omega, by omega, ?_⟩
    simp only [hget_app, hlook_cons, hlook_nil]
    rw [if_neg (by omega), if_neg (by omega)]
    simp only [if_true]
    rfl
  · refine ⟨by omega, by omega, ?_⟩
    simp only [hget_app, hlook_cons, hlook_nil]
    simp only [if_true]
    rfl
  · intro i hi
    simp only [hget_app, hlook_cons, hlook_nil]
    rw [if_neg (by omega), if_neg (by omega), if_neg (by omega), if_neg (by omega)]
  · intro R f next s hs
    have h1 : ((0 : Int)) < (N : Int) := by omega
    have w1 : IntKind.i64.wrap ((0 : Int) + 1) = 1 := by decide
    obtain ⟨k0, hk, hn, he, hr⟩ := @lk_all O fl F a11L0 f K
    rw [loop_succ, hk, a11L0, runC_cut, hs]
    clear hs
    have zc : (zAt N 0).cells = [.i .i64 N, .i .u64 (U 0#64), .i .u64 (U (1#64 <<< 0)), .i .i64 0] := rfl
    have xc : (xAt N 0).cells = [.i .i64 N, .i .u64 (U (1#64 <<< 0)), .i .u64 (U 0#64), .i .i64 0] := rfl
    have sh0 : abin .shl (.i .u64 (U 1#64)) (.i .i64 (0 : Int)) = some (.i .u64 (U (1#64 <<< 0))) := shl_ui 1#64 0
    simp only [zc, xc] at next
    simp only [slOf, zs_length, xs_length] at next ⊢
    simp -implicitDefEqProofs only [h1, sh0, z_u, newCells, ownAt, w1, hn, Nat.beq_refl, Nat.reduceMul, Nat.le_refl, evO, evFn, run_of, runC_skip, runC_ret, runC_exit, runC_seq, runC_blk, runC_reg, runC_draw, runC_ite, runC_cut, retK_nil, retK_seq, retK_seq_ex, retK_seq_ret, retK_blk, retK_blk_ret, retK_blk_ex, runO_nil, runO_cons, runD_nil, runD_cons, gd, stepOp, evOp_mv, evOp_nchk, evOp_pop, evOp_pick, evOp_alloc_true, evOp_alloc_false, evOp_box_true, evOp_box_false, evOp_build, evOp_bslice, evOp_load, evOp_store, evOp_bin, evOp_eqs, evOp_eqb, evOp_eqnil, evOp_un, evOp_conv, evOp_fadr, evOp_fld, evOp_iadr, evOp_iadra, evOp_idx, evOp_idxs, evOp_slc, evOp_ext, evOp_mkf, evOp_mks, evOp_call, evOp_len_false, evOp_len_true, evOp_app, evOp_mm, AS.put, Eff.v, fput, happly_nil, AS.undef, fdel_nil, fdel_cons, nbeq_dec, nble_dec, nblt_dec, List.cons_append, hget_app, hlook_nil, hlook_cons, argsFr, outOf, aress, ares, List.length_cons, List.length_nil, Nat.zero_add, List.nil_append, xv_t, xv_k, xn_t, xn_ki, xn_ki8, xn_kb, xn_ks, xn_ksl, xn_kp, xn_kfn, xn_k0, xn_k1, xn_ku, xns, Nat.reduceLT, fget_cons, lget_cons, lget_nil, AV.islp, cond_false, cond_true, bin_and_u, bin_or_u, bin_xor_u, bin_andNot_u, bin_add_u, bin_sub_u, bin_eql_u, bin_neq_u, bin_gtr0_u, bin_add, bin_sub, bin_mul, bin_rem, bin_eql, bin_neq, bin_lss, bin_leq, bin_gtr, bin_geq, un_not, un_neg, Nat.reduceEqDiff, reduceIte, Int.reduceLT, Int.reduceNeg, apartAll, Rec.apart, Foot.meets, Rec.wl, Rec.wh, List.map_nil, List.any_nil, Foot.no, Foot.hide, hidden, hhide_nil, apart_one, apart_row, Bool.or_true, Bool.true_and, Bool.not_false, Bool.not_true, Bool.or_false, Bool.and_true, Nat.reduceAdd, List.getElem?_cons_succ, List.getElem?_cons_zero, List.append_nil, Int.reduceEq, callFl, decide_true, decide_false, Bool.false_eq_true, Nat.reduceLeDiff, List.drop_zero, List.take_succ_cons, List.take_zero, List.drop_succ_cons, AV.old, AV.olds, AV.cells, AS.keep, keepT, keepL, lpOk, Option.isSome_some, Option.isSome_none, Bool.and_self, Bool.cond_self, splice, afill, List.all_cons, List.all_nil, AV.one, Nat.testBit_eq_decide_div_mod_eq, Nat.reducePow, Nat.reduceDiv, Nat.reduceMod, Bool.true_or, List.map_cons, List.any_cons, List.elem_nil, Bool.false_or]
    exact next _ (by simp only [evO, evFn, run_of, runC_skip, runC_ret, runC_exit, runC_seq, runC_blk, runC_reg, runC_draw, runC_ite, runC_cut, retK_nil, retK_seq, retK_seq_ex, retK_seq_ret, retK_blk, retK_blk_ret, retK_blk_ex, runO_nil, runO_cons, runD_nil, runD_cons, gd, stepOp, evOp_mv, evOp_nchk, evOp_pop, evOp_pick, evOp_alloc_true, evOp_alloc_false, evOp_box_true, evOp_box_false, evOp_build, evOp_bslice, evOp_load, evOp_store, evOp_bin, evOp_eqs, evOp_eqb, evOp_eqnil, evOp_un, evOp_conv, evOp_fadr, evOp_fld, evOp_iadr, evOp_iadra, evOp_idx, evOp_idxs, evOp_slc, evOp_ext, evOp_mkf, evOp_mks, evOp_call, evOp_len_false, evOp_len_true, evOp_app, evOp_mm, AS.put, Eff.v, fput, happly_nil, AS.undef, fdel_nil, fdel_cons, nbeq_dec, nble_dec, nblt_dec, List.cons_append, hget_app, hlook_nil, hlook_cons, argsFr, outOf, aress, ares, List.length_cons, List.length_nil, Nat.zero_add, List.nil_append, xv_t, xv_k, xn_t, xn_ki, xn_ki8, xn_kb, xn_ks, xn_ksl, xn_kp, xn_kfn, xn_k0, xn_k1, xn_ku, xns, Nat.reduceLT, fget_cons, lget_cons, lget_nil, AV.islp, cond_false, cond_true, bin_and_u, bin_or_u, bin_xor_u, bin_andNot_u, bin_add_u, bin_sub_u, bin_eql_u, bin_neq_u, bin_gtr0_u, bin_add, bin_sub, bin_mul, bin_rem, bin_eql, bin_neq, bin_lss, bin_leq, bin_gtr, bin_geq, un_not, un_neg, Nat.reduceEqDiff, reduceIte, Int.reduceLT, Int.reduceNeg, apartAll, Rec.apart, Foot.meets, Rec.wl, Rec.wh, List.map_nil, List.any_nil, Foot.no, Foot.hide, hidden, hhide_nil, apart_one, apart_row, Bool.or_true, Bool.true_and, Bool.not_false, Bool.not_true, Bool.or_false, Bool.and_true, Nat.reduceAdd, List.getElem?_cons_succ, List.getElem?_cons_zero, List.append_nil, Int.reduceEq, callFl, decide_true, decide_false, Bool.false_eq_true, Nat.reduceLeDiff, List.drop_zero, List.take_succ_cons, List.take_zero, List.drop_succ_cons, AV.old, AV.olds, AV.cells, AS.keep, keepT, keepL, lpOk, Option.isSome_some, Option.isSome_none, Bool.and_self, Bool.cond_self, splice, afill, List.all_cons, List.all_nil, AV.one, Nat.testBit_eq_decide_div_mod_eq, Nat.reducePow, Nat.reduceDiv, Nat.reduceMod, Bool.true_or, List.map_cons, List.any_cons, List.elem_nil, Bool.false_or] <;> rfl)
theorem n111 (O : Orc) (F fl n : Nat) (h : AHeap) (N q : Nat) (r2 : List AV) (hq : q < N) (hN : N ≤ 64) (hfl : fl ≤ n) (is id : Nat) (hS : Own h fl n (some is) (zs N q)) (hD : Own h fl n (some id) (xs N q)) (hne : is ≠ id) (K : AE → AS → Option Res) :
    ∃ h', Own h' fl (n + 4) (some (n + 1)) (zs N (q + 1)) ∧ Own h' fl (n + 4) (some (n + 3)) (xs N (q + 1)) ∧ (∀ i, i < fl → hget h' i = hget h i) ∧ ∀ (R : Option Res) (f : Nat)
    (next : ∀ s : AS, s.keep [0, 2, 4, 15, 16] [2, 4] = some ⟨[(0, .i .i64 N), (2, .lp 2 0), (4, .lp 4 0), (15, .i .i64 N), (16, .i .i64 ((q + 1 : Nat) : Int))], [(2, r2), (4, [.i .i64 N, slOf (some (n + 1)) (zs N (q + 1)), slOf (some (n + 3)) (xs N (q + 1))])], h', n + 4⟩ → evLoop (evC O fl F a11L0) f s K = R) (s : AS)
    (hs : s.keep [0, 2, 4, 15, 16] [2, 4] = some ⟨[(0, .i .i64 N), (2, .lp 2 0), (4, .lp 4 0), (15, .i .i64 N), (16, .i .i64 (q : Int))], [(2, r2), (4, [.i .i64 N, slOf (some is) (zs N q), slOf (some id) (xs N q)])], h, n⟩),
    evLoop (evC O fl F a11L0) (f + 1) s K = R := by
  obtain ⟨s1, s2, s3⟩ := hS
  obtain ⟨d1, d2, d3⟩ := hD
  refine ⟨happly (happly (happly (happly h [(n, some ⟨true, false, 39, (zAt N q).cells⟩)]) [(is, none), (n + 1, some ⟨true, true, 39, cellsOf (zs N q) ++ (zAt N q).cells⟩)]) [(n + 2, some ⟨true, false, 39, (xAt N q).cells⟩)]) [(id, none), (n + 3, some ⟨true, true, 39, cellsOf (xs N q) ++ (xAt N q).cells⟩)], ?_, ?_, ?_, ?_⟩
  · refine ⟨by omega, by omega, ?_⟩
    simp only [hget_app, hlook_cons, hlook_nil]
    rw [if_neg (by omega), if_neg (by omega), if_neg (by omega)]
    simp only [if_true, zs_succ, cellsOf_snoc]
    rw [if_neg (by omega)]
  · refine ⟨by omega, by omega, ?_⟩
    simp only [hget_app, hlook_cons, hlook_nil]
    rw [if_neg (by omega)]
    simp only [if_true, xs_succ, cellsOf_snoc]
  · intro i hi
    simp only [hget_app, hlook_cons, hlook_nil]
    rw [if_neg (by omega), if_neg (by omega), if_neg (by omega), if_neg (by omega), if_neg (by omega), if_neg (by omega)]
  · intro R f next s hs
    have h1 : ((q : Int)) < (N : Int) := by omega
    have w1 : IntKind.i64.wrap ((q : Int) + 1) = (q : Int) + 1 := wrap_of (x := (q : Int) + 1) ⟨by omega, by omega⟩
    obtain ⟨k0, hk, hn, he, hr⟩ := @lk_all O fl F a11L0 f K
    rw [loop_succ, hk, a11L0, runC_cut, hs]
    clear hs
    have zc : (zAt N q).cells = [.i .i64 N, .i .u64 (U 0#64), .i .u64 (U (1#64 <<< q)), .i .i64 0] := rfl
    have xc : (xAt N q).cells = [.i .i64 N, .i .u64 (U (1#64 <<< q)), .i .u64 (U 0#64), .i .i64 0] := rfl
    have b1 : Nat.ble ((q + 1) * 32) 140737488355328 = true := Nat.ble_eq_true_of_le (by omega)
    have l1 : (cellsOf (zs N q)).length = q * 4 := by rw [cellsOf_length, zs_length]
    have l2 : (cellsOf (xs N q)).length = q * 4 := by rw [cellsOf_length, xs_length]
    have o1 : Nat.ble fl is = true := Nat.ble_eq_true_of_le s1
    have o2 : Nat.ble fl id = true := Nat.ble_eq_true_of_le d1
    have c1 : ¬ n = is := by omega
    have c2 : ¬ n = id := by omega
    have c3 : ¬ n + 1 = id := by omega
    have c4 : ¬ n + 1 + 1 = id := by omega
    have c5 : ¬ is = id := hne
    have c6 : ¬ is = n + 1 + 1 := by omega
    simp only [zc, xc] at next
    simp only [slOf, zs_length, xs_length] at next ⊢
    simp -implicitDefEqProofs only [h1, shl_ui, z_u, newCells, ownAt, s3, d3, o1, o2, c1, c2, c3, c4, c5, c6, b1, l1, l2, w1, hn, Nat.beq_refl, Nat.reduceMul, Nat.le_refl, evO, evFn, run_of, runC_skip, runC_ret, runC_exit, runC_seq, runC_blk, runC_reg, runC_draw, runC_ite, runC_cut, retK_nil, retK_seq, retK_seq_ex, retK_seq_ret, retK_blk, retK_blk_ret, retK_blk_ex, runO_nil, runO_cons, runD_nil, runD_cons, gd, stepOp, evOp_mv, evOp_nchk, evOp_pop, evOp_pick, evOp_alloc_true, evOp_alloc_false, evOp_box_true, evOp_box_false, evOp_build, evOp_bslice, evOp_load, evOp_store, evOp_bin, evOp_eqs, evOp_eqb, evOp_eqnil, evOp_un, evOp_conv, evOp_fadr, evOp_fld, evOp_iadr, evOp_iadra, evOp_idx, evOp_idxs, evOp_slc, evOp_ext, evOp_mkf, evOp_mks, evOp_call, evOp_len_false, evOp_len_true, evOp_app, evOp_mm, AS.put, Eff.v, fput, happly_nil, AS.undef, fdel_nil, fdel_cons, nbeq_dec, nble_dec, nblt_dec, List.cons_append, hget_app, hlook_nil, hlook_cons, argsFr, outOf, aress, ares, List.length_cons, List.length_nil, Nat.zero_add, List.nil_append, xv_t, xv_k, xn_t, xn_ki, xn_ki8, xn_kb, xn_ks, xn_ksl, xn_kp, xn_kfn, xn_k0, xn_k1, xn_ku, xns, Nat.reduceLT, fget_cons, lget_cons, lget_nil, AV.islp, cond_false, cond_true, bin_and_u, bin_or_u, bin_xor_u, bin_andNot_u, bin_add_u, bin_sub_u, bin_eql_u, bin_neq_u, bin_gtr0_u, bin_add, bin_sub, bin_mul, bin_rem, bin_eql, bin_neq, bin_lss, bin_leq, bin_gtr, bin_geq, un_not, un_neg, Nat.reduceEqDiff, reduceIte, Int.reduceLT, Int.reduceNeg, apartAll, Rec.apart, Foot.meets, Rec.wl, Rec.wh, List.map_nil, List.any_nil, Foot.no, Foot.hide, hidden, hhide_nil, apart_one, apart_row, Bool.or_true, Bool.true_and, Bool.not_false, Bool.not_true, Bool.or_false, Bool.and_true, Nat.reduceAdd, List.getElem?_cons_succ, List.getElem?_cons_zero, List.append_nil, Int.reduceEq, callFl, decide_true, decide_false, Bool.false_eq_true, Nat.reduceLeDiff, List.drop_zero, List.take_succ_cons, List.take_zero, List.drop_succ_cons, AV.old, AV.olds, AV.cells, AS.keep, keepT, keepL, lpOk, Option.isSome_some, Option.isSome_none, Bool.and_self, Bool.cond_self, splice, afill, List.all_cons, List.all_nil, AV.one, Nat.testBit_eq_decide_div_mod_eq, Nat.reducePow, Nat.reduceDiv, Nat.reduceMod, Bool.true_or, List.map_cons, List.any_cons, List.elem_nil, Bool.false_or]
    exact next _ (by simp only [evO, evFn, run_of, runC_skip, runC_ret, runC_exit, runC_seq, runC_blk, runC_reg, runC_draw, runC_ite, runC_cut, retK_nil, retK_seq, retK_seq_ex, retK_seq_ret, retK_blk, retK_blk_ret, retK_blk_ex, runO_nil, runO_cons, runD_nil, runD_cons, gd, stepOp, evOp_mv, evOp_nchk, evOp_pop, evOp_pick, evOp_alloc_true, evOp_alloc_false, evOp_box_true, evOp_box_false, evOp_build, evOp_bslice, evOp_load, evOp_store, evOp_bin, evOp_eqs, evOp_eqb, evOp_eqnil, evOp_un, evOp_conv, evOp_fadr, evOp_fld, evOp_iadr, evOp_iadra, evOp_idx, evOp_idxs, evOp_slc, evOp_ext, evOp_mkf, evOp_mks, evOp_call, evOp_len_false, evOp_len_true, evOp_app, evOp_mm, AS.put, Eff.v, fput, happly_nil, AS.undef, fdel_nil, fdel_cons, nbeq_dec, nble_dec, nblt_dec, List.cons_append, hget_app, hlook_nil, hlook_cons, argsFr, outOf, aress, ares, List.length_cons, List.length_nil, Nat.zero_add, List.nil_append, xv_t, xv_k, xn_t, xn_ki, xn_ki8, xn_kb, xn_ks, xn_ksl, xn_kp, xn_kfn, xn_k0, xn_k1, xn_ku, xns, Nat.reduceLT, fget_cons, lget_cons, lget_nil, AV.islp, cond_false, cond_true, bin_and_u, bin_or_u, bin_xor_u, bin_andNot_u, bin_add_u, bin_sub_u, bin_eql_u, bin_neq_u, bin_gtr0_u, bin_add, bin_sub, bin_mul, bin_rem, bin_eql, bin_neq, bin_lss, bin_leq, bin_gtr, bin_geq, un_not, un_neg, Nat.reduceEqDiff, reduceIte, Int.reduceLT, Int.reduceNeg, apartAll, Rec.apart, Foot.meets, Rec.wl, Rec.wh, List.map_nil, List.any_nil, Foot.no, Foot.hide, hidden, hhide_nil, apart_one, apart_row, Bool.or_true, Bool.true_and, Bool.not_false, Bool.not_true, Bool.or_false, Bool.and_true, Nat.reduceAdd, List.getElem?_cons_succ, List.getElem?_cons_zero, List.append_nil, Int.reduceEq, callFl, decide_true, decide_false, Bool.false_eq_true, Nat.reduceLeDiff, List.drop_zero, List.take_succ_cons, List.take_zero, List.drop_succ_cons, AV.old, AV.olds, AV.cells, AS.keep, keepT, keepL, lpOk, Option.isSome_some, Option.isSome_none, Bool.and_self, Bool.cond_self, splice, afill, List.all_cons, List.all_nil, AV.one, Nat.testBit_eq_decide_div_mod_eq, Nat.reducePow, Nat.reduceDiv, Nat.reduceMod, Bool.true_or, List.map_cons, List.any_cons, List.elem_nil, Bool.false_or] <;> rfl)
theorem l11L0 (O : Orc) (F fl : Nat) (N : Nat) (r2 : List AV) (hN : N ≤ 64) (K : AE → AS → Option Res) : ∀ (m q n is id : Nat) (h : AHeap), q + m = N → fl ≤ n → Own h fl n (some is) (zs N q) → Own h fl n (some id) (xs N q) → is ≠ id →
    ∃ h' n' is' id', n ≤ n' ∧ Own h' fl n' (some is') (zs N N) ∧ Own h' fl n' (some id') (xs N N) ∧ (∀ i, i < fl → hget h' i = hget h i) ∧ ∀ (f : Nat) (s : AS), m ≤ f →
    s.keep [0, 2, 4, 15, 16] [2, 4] = some ⟨[(0, .i .i64 N), (2, .lp 2 0), (4, .lp 4 0), (15, .i .i64 N), (16, .i .i64 (q : Int))], [(2, r2), (4, [.i .i64 N, slOf (some is) (zs N q), slOf (some id) (xs N q)])], h, n⟩ →
    evLoop (evC O fl F a11L0) (f + 1) s K = K (.ex 0) ⟨[(2, .lp 2 0), (4, .lp 4 0)], [(2, r2), (4, [.i .i64 N, slOf (some is') (zs N N), slOf (some id') (xs N N)])], h', n'⟩ := by
  intro m
  induction m with
  | zero =>
    intro q n is id h hq hfl hS hD hne
    obtain rfl : q = N := by omega
    refine ⟨h, n, is, id, Nat.le_refl _, hS, hD, fun _ _ => rfl, fun f s _ hs => ?_⟩
    have h1 : ¬ ((q : Int) < (q : Int)) := by omega
    obtain ⟨k0, hk, hn, he, hr⟩ := @lk_all O fl F a11L0 f K
    rw [loop_succ, hk, a11L0, runC_cut, hs]
    simp -implicitDefEqProofs only [h1, he, evO, evFn, run_of, runC_skip, runC_ret, runC_exit, runC_seq, runC_blk, runC_reg, runC_draw, runC_ite, runC_cut, retK_nil, retK_seq, retK_seq_ex, retK_seq_ret, retK_blk, retK_blk_ret, retK_blk_ex, runO_nil, runO_cons, runD_nil, runD_cons, gd, stepOp, evOp_mv, evOp_nchk, evOp_pop, evOp_pick, evOp_alloc_true, evOp_alloc_false, evOp_box_true, evOp_box_false, evOp_build, evOp_bslice, evOp_load, evOp_store, evOp_bin, evOp_eqs, evOp_eqb, evOp_eqnil, evOp_un, evOp_conv, evOp_fadr, evOp_fld, evOp_iadr, evOp_iadra, evOp_idx, evOp_idxs, evOp_slc, evOp_ext, evOp_mkf, evOp_mks, evOp_call, evOp_len_false, evOp_len_true, evOp_app, evOp_mm, AS.put, Eff.v, fput, happly_nil, AS.undef, fdel_nil, fdel_cons, nbeq_dec, nble_dec, nblt_dec, List.cons_append, hget_app, hlook_nil, hlook_cons, argsFr, outOf, aress, ares, List.length_cons, List.length_nil, Nat.zero_add, List.nil_append, xv_t, xv_k, xn_t, xn_ki, xn_ki8, xn_kb, xn_ks, xn_ksl, xn_kp, xn_kfn, xn_k0, xn_k1, xn_ku, xns, Nat.reduceLT, fget_cons, lget_cons, lget_nil, AV.islp, cond_false, cond_true, bin_and_u, bin_or_u, bin_xor_u, bin_andNot_u, bin_add_u, bin_sub_u, bin_eql_u, bin_neq_u, bin_gtr0_u, bin_add, bin_sub, bin_mul, bin_rem, bin_eql, bin_neq, bin_lss, bin_leq, bin_gtr, bin_geq, un_not, un_neg, Nat.reduceEqDiff, reduceIte, Int.reduceLT, Int.reduceNeg, apartAll, Rec.apart, Foot.meets, Rec.wl, Rec.wh, List.map_nil, List.any_nil, Foot.no, Foot.hide, hidden, hhide_nil, apart_one, apart_row, Bool.or_true, Bool.true_and, Bool.not_false, Bool.not_true, Bool.or_false, Bool.and_true, Nat.reduceAdd, List.getElem?_cons_succ, List.getElem?_cons_zero, List.append_nil, Int.reduceEq, callFl, decide_true, decide_false, Bool.false_eq_true, Nat.reduceLeDiff, List.drop_zero, List.take_succ_cons, List.take_zero, List.drop_succ_cons, AV.old, AV.olds, AV.cells, AS.keep, keepT, keepL, lpOk, Option.isSome_some, Option.isSome_none, Bool.and_self, Bool.cond_self, splice, afill, List.all_cons, List.all_nil, AV.one, Nat.testBit_eq_decide_div_mod_eq, Nat.reducePow, Nat.reduceDiv, Nat.reduceMod, Bool.true_or, List.map_cons, List.any_cons, List.elem_nil, Bool.false_or]
  | succ m ih =>
    intro q n is id h hq hfl hS hD hne
    obtain ⟨h1, s1, d1, k1, g1⟩ := n111 O F fl n h N q r2 (by omega) hN hfl is id hS hD hne K
    obtain ⟨h', n', is', id', q1, q2, q3, q4, q5⟩ := ih (q + 1) (n + 4) (n + 1) (n + 3) h1 (by omega) (by omega) s1 d1 (by omega)
    refine ⟨h', n', is', id', by omega, q2, q3, fun i hi => by rw [q4 i hi, k1 i hi], fun f s hf hs => ?_⟩
    obtain ⟨f, rfl⟩ : ∃ g, f = g + 1 := ⟨f - 1, by omega⟩
    exact g1 _ (f + 1) (fun s hs => q5 f s (by omega) hs) s hs
theorem L11L0 (O : Orc) (F fl : Nat) (N n : Nat) (h : AHeap) (r2 : List AV) (hN : N ≤ 64) (hfl : fl ≤ n) (K : AE → AS → Option Res) :
    ∃ h' n' as' ad', n ≤ n' ∧ Own h' fl n' as' (zs N N) ∧ Own h' fl n' ad' (xs N N) ∧ (∀ i, i < fl → hget h' i = hget h i) ∧ ∀ (f : Nat) (s : AS), 64 ≤ f →
    s.keep [0, 2, 4, 15, 16] [2, 4] = some ⟨[(0, .i .i64 N), (2, .lp 2 0), (4, .lp 4 0), (15, .i .i64 N), (16, .i .i64 0)], [(2, r2), (4, [.i .i64 N, slOf none (zs N 0), slOf none (xs N 0)])], h, n⟩ →
    evLoop (evC O fl F a11L0) (f + 1) s K = K (.ex 0) ⟨[(2, .lp 2 0), (4, .lp 4 0)], [(2, r2), (4, [.i .i64 N, slOf as' (zs N N), slOf ad' (xs N N)])], h', n'⟩ := by
  rcases Nat.eq_zero_or_pos N with z | z
  · subst z
    refine ⟨h, n, none, none, Nat.le_refl _, rfl, rfl, fun _ _ => rfl, fun f s _ hs => ?_⟩
    obtain ⟨k0, hk, hn, he, hr⟩ := @lk_all O fl F a11L0 f K
    rw [loop_succ, hk, a11L0, runC_cut, hs]
    simp -implicitDefEqProofs only [he, Int.natCast_zero, Int.lt_irrefl, evO, evFn, run_of, runC_skip, runC_ret, runC_exit, runC_seq, runC_blk, runC_reg, runC_draw, runC_ite, runC_cut, retK_nil, retK_seq, retK_seq_ex, retK_seq_ret, retK_blk, retK_blk_ret, retK_blk_ex, runO_nil, runO_cons, runD_nil, runD_cons, gd, stepOp, evOp_mv, evOp_nchk, evOp_pop, evOp_pick, evOp_alloc_true, evOp_alloc_false, evOp_box_true, evOp_box_false, evOp_build, evOp_bslice, evOp_load, evOp_store, evOp_bin, evOp_eqs, evOp_eqb, evOp_eqnil, evOp_un, evOp_conv, evOp_fadr, evOp_fld, evOp_iadr, evOp_iadra, evOp_idx, evOp_idxs, evOp_slc, evOp_ext, evOp_mkf, evOp_mks, evOp_call, evOp_len_false, evOp_len_true, evOp_app, evOp_mm, AS.put, Eff.v, fput, happly_nil, AS.undef, fdel_nil, fdel_cons, nbeq_dec, nble_dec, nblt_dec, List.cons_append, hget_app, hlook_nil, hlook_cons, argsFr, outOf, aress, ares, List.length_cons, List.length_nil, Nat.zero_add, List.nil_append, xv_t, xv_k, xn_t, xn_ki, xn_ki8, xn_kb, xn_ks, xn_ksl, xn_kp, xn_kfn, xn_k0, xn_k1, xn_ku, xns, Nat.reduceLT, fget_cons, lget_cons, lget_nil, AV.islp, cond_false, cond_true, bin_and_u, bin_or_u, bin_xor_u, bin_andNot_u, bin_add_u, bin_sub_u, bin_eql_u, bin_neq_u, bin_gtr0_u, bin_add, bin_sub, bin_mul, bin_rem, bin_eql, bin_neq, bin_lss, bin_leq, bin_gtr, bin_geq, un_not, un_neg, Nat.reduceEqDiff, reduceIte, Int.reduceLT, Int.reduceNeg, apartAll, Rec.apart, Foot.meets, Rec.wl, Rec.wh, List.map_nil, List.any_nil, Foot.no, Foot.hide, hidden, hhide_nil, apart_one, apart_row, Bool.or_true, Bool.true_and, Bool.not_false, Bool.not_true, Bool.or_false, Bool.and_true, Nat.reduceAdd, List.getElem?_cons_succ, List.getElem?_cons_zero, List.append_nil, Int.reduceEq, callFl, decide_true, decide_false, Bool.false_eq_true, Nat.reduceLeDiff, List.drop_zero, List.take_succ_cons, List.take_zero, List.drop_succ_cons, AV.old, AV.olds, AV.cells, AS.keep, keepT, keepL, lpOk, Option.isSome_some, Option.isSome_none, Bool.and_self, Bool.cond_self, splice, afill, List.all_cons, List.all_nil, AV.one, Nat.testBit_eq_decide_div_mod_eq, Nat.reducePow, Nat.reduceDiv, Nat.reduceMod, Bool.true_or, List.map_cons, List.any_cons, List.elem_nil, Bool.false_or]
  · obtain ⟨h1, s1, d1, k1, g1⟩ := n011 O F fl n h N r2 z hN hfl K
    obtain ⟨h', n', is', id', q1, q2, q3, q4, q5⟩ := l11L0 O F fl N r2 hN K (N - 1) 1 (n + 4) (n + 1) (n + 3) h1 (by omega) (by omega) s1 d1 (by omega)
    refine ⟨h', n', some is', some id', by omega, q2, q3, fun i hi => by rw [q4 i hi, k1 i hi], fun f s hf hs => ?_⟩
    obtain ⟨f, rfl⟩ : ∃ g, f = g + 1 := ⟨f - 1, by omega⟩
    exact g1 _ (f + 1) (fun s hs => q5 f s (by omega) hs) s hs
theorem n012 (O : Orc) (F fl n : Nat) (h : AHeap) (N : Nat) (r2 : List AV) (hq : 0 < N) (hN : N ≤ 64) (hfl : fl ≤ n) (hlet : ∀ (h : AHeap) (n fl : Nat) (q : Int) (x : Bool), O 38 [.i .i64 N, .i .i64 q, .b x] h n fl = some ((let1 N q x).av, some (h, n))) (K : AE → AS → Option Res) :
    ∃ h', Own h' fl (n + 4) (some (n + 1)) (zs N 1) ∧ Own h' fl (n + 4) (some (n + 3)) (xs N 1) ∧ (∀ i, i < fl → hget h' i = hget h i) ∧ ∀ (R : Option Res) (f : Nat)
    (next : ∀ s : AS, s.keep [0, 2, 4, 5] [2, 4] = some ⟨[(0, .i .i64 N), (2, .lp 2 0), (4, .lp 4 0), (5, .i .i64 ((1 : Nat) : Int))], [(2, r2), (4, [.i .i64 N, slOf (some (n + 1)) (zs N 1), slOf (some (n + 3)) (xs N 1)])], h', n + 4⟩ → evLoop (evC O fl F a12L0) f s K = R) (s : AS)
    (hs : s.keep [0, 2, 4, 5] [2, 4] = some ⟨[(0, .i .i64 N), (2, .lp 2 0), (4, .lp 4 0), (5, .i .i64 0)], [(2, r2), (4, [.i .i64 N, slOf none (zs N 0), slOf none (xs N 0)])], h, n⟩),
    evLoop (evC O fl F a12L0) (f + 1) s K = R := by
  refine ⟨happly (happly (happly (happly h [(n, some ⟨true, false, 39, (zAt N 0).cells⟩)]) [(n + 1, some ⟨true, true, 39, (zAt N 0).cells⟩)]) [(n + 2, some ⟨true, false, 39, (xAt N 0).cells⟩)]) [(n + 3, some ⟨true, true, 39, (xAt N 0).cells⟩)], ?_, ?_, ?_, ?_⟩
  · refine ⟨by omega, by omega, ?_⟩
    simp only [hget_app, hlook_cons, hlook_nil]
    rw [if_neg (by omega), if_neg (by omega)]
    simp only [if_true]
    rfl
  · refine ⟨by omega, by omega, ?_⟩
    simp only [hget_app, hlook_cons, hlook_nil]
    simp only [if_true]
    rfl
  · intro i hi
    simp only [hget_app, hlook_cons, hlook_nil]
    rw [if_neg (by omega), if_neg (by omega), if_neg (by omega), if_neg (by omega)]
  · intro R f next s hs
    have h1 : ((0 : Int)) < (N : Int) := by omega
    have w1 : IntKind.i64.wrap ((0 : Int) + 1) = 1 := by decide
    obtain ⟨k0, hk, hn, he, hr⟩ := @lk_all O fl F a12L0 f K
    rw [loop_succ, hk, a12L0, runC_cut, hs]
    clear hs
    have zc : (zAt N 0).cells = [.i .i64 N, .i .u64 (U 0#64), .i .u64 (U (1#64 <<< 0)), .i .i64 0] := rfl
    have xc : (xAt N 0).cells = [.i .i64 N, .i .u64 (U (1#64 <<< 0)), .i .u64 (U 0#64), .i .i64 0] := rfl
    have e1 := fun h n fl => hlet h n fl 0 false
    have e2 := fun h n fl => hlet h n fl 0 true
    rw [show let1 N 0 false = zAt N 0 from let1_z N 0 (by omega)] at e1
    rw [show let1 N 0 true = xAt N 0 from let1_x N 0 (by omega)] at e2
    simp only [Pl.av, zc, xc] at e1 e2
    have sh0 : abin .shl (.i .u64 (U 1#64)) (.i .i64 (0 : Int)) = some (.i .u64 (U (1#64 <<< 0))) := shl_ui 1#64 0
    simp only [zc, xc] at next
    simp only [slOf, zs_length, xs_length] at next ⊢
    simp -implicitDefEqProofs only [h1, sh0, z_u, newCells, ownAt, w1, hn, e1, e2, Nat.beq_refl, Nat.reduceMul, Nat.le_refl, evO, evFn, run_of, runC_skip, runC_ret, runC_exit, runC_seq, runC_blk, runC_reg, runC_draw, runC_ite, runC_cut, retK_nil, retK_seq, retK_seq_ex, retK_seq_ret, retK_blk, retK_blk_ret, retK_blk_ex, runO_nil, runO_cons, runD_nil, runD_cons, gd, stepOp, evOp_mv, evOp_nchk, evOp_pop, evOp_pick, evOp_alloc_true, evOp_alloc_false, evOp_box_true, evOp_box_false, evOp_build, evOp_bslice, evOp_load, evOp_store, evOp_bin, evOp_eqs, evOp_eqb, evOp_eqnil, evOp_un, evOp_conv, evOp_fadr, evOp_fld, evOp_iadr, evOp_iadra, evOp_idx, evOp_idxs, evOp_slc, evOp_ext, evOp_mkf, evOp_mks, evOp_call, evOp_len_false, evOp_len_true, evOp_app, evOp_mm, AS.put, Eff.v, fput, happly_nil, AS.undef, fdel_nil, fdel_cons, nbeq_dec, nble_dec, nblt_dec, List.cons_append, hget_app, hlook_nil, hlook_cons, argsFr, outOf, aress, ares, List.length_cons, List.length_nil, Nat.zero_add, List.nil_append, xv_t, xv_k, xn_t, xn_ki, xn_ki8, xn_kb, xn_ks, xn_ksl, xn_kp, xn_kfn, xn_k0, xn_k1, xn_ku, xns, Nat.reduceLT, fget_cons, lget_cons, lget_nil, AV.islp, cond_false, cond_true, bin_and_u, bin_or_u, bin_xor_u, bin_andNot_u, bin_add_u, bin_sub_u, bin_eql_u, bin_neq_u, bin_gtr0_u, bin_add, bin_sub, bin_mul, bin_rem, bin_eql, bin_neq, bin_lss, bin_leq, bin_gtr, bin_geq, un_not, un_neg, Nat.reduceEqDiff, reduceIte, Int.reduceLT, Int.reduceNeg, apartAll, Rec.apart, Foot.meets, Rec.wl, Rec.wh, List.map_nil, List.any_nil, Foot.no, Foot.hide, hidden, hhide_nil, apart_one, apart_row, Bool.or_true, Bool.true_and, Bool.not_false, Bool.not_true, Bool.or_false, Bool.and_true, Nat.reduceAdd, List.getElem?_cons_succ, List.getElem?_cons_zero, List.append_nil, Int.reduceEq, callFl, decide_true, decide_false, Bool.false_eq_true, Nat.reduceLeDiff, List.drop_zero, List.take_succ_cons, List.take_zero, List.drop_succ_cons, AV.old, AV.olds, AV.cells, AS.keep, keepT, keepL, lpOk, Option.isSome_some, Option.isSome_none, Bool.and_self, Bool.cond_self, splice, afill, List.all_cons, List.all_nil, AV.one, Nat.testBit_eq_decide_div_mod_eq, Nat.reducePow, Nat.reduceDiv, Nat.reduceMod, Bool.true_or, List.map_cons, List.any_cons, List.elem_nil, Bool.false_or]
    exact next _ (by simp only [evO, evFn, run_of, runC_skip, runC_ret, runC_exit, runC_seq, runC_blk, runC_reg, runC_draw, runC_ite, runC_cut, retK_nil, retK_seq, retK_seq_ex, retK_seq_ret, retK_blk, retK_blk_ret, retK_blk_ex, runO_nil, runO_cons, runD_nil, runD_cons, gd, stepOp, evOp_mv, evOp_nchk, evOp_pop, evOp_pick, evOp_alloc_true, evOp_alloc_false, evOp_box_true, evOp_box_false, evOp_build, evOp_bslice, evOp_load, evOp_store, evOp_bin, evOp_eqs, evOp_eqb, evOp_eqnil, evOp_un, evOp_conv, evOp_fadr, evOp_fld, evOp_iadr, evOp_iadra, evOp_idx, evOp_idxs, evOp_slc, evOp_ext, evOp_mkf, evOp_mks, evOp_call, evOp_len_false, evOp_len_true, evOp_app, evOp_mm, AS.put, Eff.v, fput, happly_nil, AS.undef, fdel_nil, fdel_cons, nbeq_dec, nble_dec, nblt_dec, List.cons_append, hget_app, hlook_nil, hlook_cons, argsFr, outOf, aress, ares, List.length_cons, List.length_nil, Nat.zero_add, List.nil_append, xv_t, xv_k, xn_t, xn_ki, xn_ki8, xn_kb, xn_ks, xn_ksl, xn_kp, xn_kfn, xn_k0, xn_k1, xn_ku, xns, Nat.reduceLT, fget_cons, lget_cons, lget_nil, AV.islp, cond_false, cond_true, bin_and_u, bin_or_u, bin_xor_u, bin_andNot_u, bin_add_u, bin_sub_u, bin_eql_u, bin_neq_u, bin_gtr0_u, bin_add, bin_sub, bin_mul, bin_rem, bin_eql, bin_neq, bin_lss, bin_leq, bin_gtr, bin_geq, un_not, un_neg, Nat.reduceEqDiff, reduceIte, Int.reduceLT, Int.reduceNeg, apartAll, Rec.apart, Foot.meets, Rec.wl, Rec.wh, List.map_nil, List.any_nil, Foot.no, Foot.hide, hidden, hhide_nil, apart_one, apart_row, Bool.or_true, Bool.true_and, Bool.not_false, Bool.not_true, Bool.or_false, Bool.and_true, Nat.reduceAdd, List.getElem?_cons_succ, List.getElem?_cons_zero, List.append_nil, Int.reduceEq, callFl, decide_true, decide_false, Bool.false_eq_true, Nat.reduceLeDiff, List.drop_zero, List.take_succ_cons, List.take_zero, List.drop_succ_cons, AV.old, AV.olds, AV.cells, AS.keep, keepT, keepL, lpOk, Option.isSome_some, Option.isSome_none, Bool.and_self, Bool.cond_self, splice, afill, List.all_cons, List.all_nil, AV.one, Nat.testBit_eq_decide_div_mod_eq, Nat.reducePow, Nat.reduceDiv, Nat.reduceMod, Bool.true_or, List.map_cons, List.any_cons, List.elem_nil, Bool.false_or] <;> rfl)
theorem n112 (O : Orc) (F fl n : Nat) (h : AHeap) (N q : Nat) (r2 : List AV) (hq : q < N) (hN : N ≤ 64) (hfl : fl ≤ n) (is id : Nat) (hS : Own h fl n (some is) (zs N q)) (hD : Own h fl n (some id) (xs N q)) (hne : is ≠ id) (hlet : ∀ (h : AHeap) (n fl : Nat) (q : Int) (x : Bool), O 38 [.i .i64 N, .i .i64 q, .b x] h n fl = some ((let1 N q x).av, some (h, n))) (K : AE → AS → Option Res) :
    ∃ h', Own h' fl (n + 4) (some (n + 1)) (zs N (q + 1)) ∧ Own h' fl (n + 4) (some (n + 3)) (xs N (q + 1)) ∧ (∀ i, i < fl → hget h' i = hget h i) ∧ ∀ (R : Option Res) (f : Nat)
    (next : ∀ s : AS, s.keep [0, 2, 4, 5] [2, 4] = some ⟨[(0, .i .i64 N), (2, .lp 2 0), (4, .lp 4 0), (5, .i .i64 ((q + 1 : Nat) : Int))], [(2, r2), (4, [.i .i64 N, slOf (some (n + 1)) (zs N (q + 1)), slOf (some (n + 3)) (xs N (q + 1))])], h', n + 4⟩ → evLoop (evC O fl F a12L0) f s K = R) (s : AS)
    (hs : s.keep [0, 2, 4, 5] [2, 4] = some ⟨[(0, .i .i64 N), (2, .lp 2 0), (4, .lp 4 0), (5, .i .i64 (q : Int))], [(2, r2), (4, [.i .i64 N, slOf (some is) (zs N q), slOf (some id) (xs N q)])], h, n⟩),
    evLoop (evC O fl F a12L0) (f + 1) s K = R := by
  obtain ⟨s1, s2, s3⟩ := hS
  obtain ⟨d1, d2, d3⟩ := hD
  refine ⟨happly (happly (happly (happly h [(n, some ⟨true, false, 39, (zAt N q).cells⟩)]) [(is, none), (n + 1, some ⟨true, true, 39, cellsOf (zs N q) ++ (zAt N q).cells⟩)]) [(n + 2, some ⟨true, false, 39, (xAt N q).cells⟩)]) [(id, none), (n + 3, some ⟨true, true, 39, cellsOf (xs N q) ++ (xAt N q).cells⟩)], ?_, ?_, ?_, ?_⟩
  · refine ⟨by omega, by omega, ?_⟩
    simp only [hget_app, hlook_cons, hlook_nil]
    rw [if_neg (by omega), if_neg (by omega), if_neg (by omega)]
    simp only [if_true, zs_succ, cellsOf_snoc]
    rw [if_neg (by omega)]
  · refine ⟨by omega, by omega, ?_⟩
    simp only [hget_app, hlook_cons, hlook_nil]
    rw [if_neg (by omega)]
    simp only [if_true, xs_succ, cellsOf_snoc]
  · intro i hi
    simp only [hget_app, hlook_cons, hlook_nil]
    rw [if_neg (by omega), if_neg (by omega), if_neg (by omega), if_neg (by omega), if_neg (by omega), if_neg (by omega)]
  · intro R f next s hs
    have h1 : ((q : Int)) < (N : Int) := by omega
    have w1 : IntKind.i64.wrap ((q : Int) + 1) = (q : Int) + 1 := wrap_of (x := (q : Int) + 1) ⟨by omega, by omega⟩
    obtain ⟨k0, hk, hn, he, hr⟩ := @lk_all O fl F a12L0 f K
    rw [loop_succ, hk, a12L0, runC_cut, hs]
    clear hs
    have zc : (zAt N q).cells = [.i .i64 N, .i .u64 (U 0#64), .i .u64 (U (1#64 <<< q)), .i .i64 0] := rfl
    have xc : (xAt N q).cells = [.i .i64 N, .i .u64 (U (1#64 <<< q)), .i .u64 (U 0#64), .i .i64 0] := rfl
    have e1 := fun h n fl => hlet h n fl q false
    have e2 := fun h n fl => hlet h n fl q true
    rw [let1_z N q (by omega)] at e1
    rw [let1_x N q (by omega)] at e2
    simp only [Pl.av, zc, xc] at e1 e2
    have b1 : Nat.ble ((q + 1) * 32) 140737488355328 = true := Nat.ble_eq_true_of_le (by omega)
    have l1 : (cellsOf (zs N q)).length = q * 4 := by rw [cellsOf_length, zs_length]
    have l2 : (cellsOf (xs N q)).length = q * 4 := by rw [cellsOf_length, xs_length]
    have o1 : Nat.ble fl is = true := Nat.ble_eq_true_of_le s1
    have o2 : Nat.ble fl id = true := Nat.ble_eq_true_of_le d1
    have c1 : ¬ n = is := by omega
    have c2 : ¬ n = id := by omega
    have c3 : ¬ n + 1 = id := by omega
    have c4 : ¬ n + 1 + 1 = id := by omega
    have c5 : ¬ is = id := hne
    have c6 : ¬ is = n + 1 + 1 := by omega
    simp only [zc, xc] at next
    simp only [slOf, zs_length, xs_length] at next ⊢
    simp -implicitDefEqProofs only [h1, shl_ui, z_u, newCells, ownAt, s3, d3, o1, o2, c1, c2, c3, c4, c5, c6, b1, l1, l2, w1, hn, e1, e2, Nat.beq_refl, Nat.reduceMul, Nat.le_refl, evO, evFn, run_of, runC_skip, runC_ret, runC_exit, runC_seq, runC_blk, runC_reg, runC_draw, runC_ite, runC_cut, retK_nil, retK_seq, retK_seq_ex, retK_seq_ret, retK_blk, retK_blk_ret, retK_blk_ex, runO_nil, runO_cons, runD_nil, runD_cons, gd, stepOp, evOp_mv, evOp_nchk, evOp_pop, evOp_pick, evOp_alloc_true, evOp_alloc_false, evOp_box_true, evOp_box_false, evOp_build, evOp_bslice, evOp_load, evOp_store, evOp_bin, evOp_eqs, evOp_eqb, evOp_eqnil, evOp_un, evOp_conv, evOp_fadr, evOp_fld, evOp_iadr, evOp_iadra, evOp_idx, evOp_idxs, evOp_slc, evOp_ext, evOp_mkf, evOp_mks, evOp_call, evOp_len_false, evOp_len_true, evOp_app, evOp_mm, AS.put, Eff.v, fput, happly_nil, AS.undef, fdel_nil, fdel_cons, nbeq_dec, nble_dec, nblt_dec, List.cons_append, hget_app, hlook_nil, hlook_cons, argsFr, outOf, aress, ares, List.length_cons, List.length_nil, Nat.zero_add, List.nil_append, xv_t, xv_k, xn_t, xn_ki, xn_ki8, xn_kb, xn_ks, xn_ksl, xn_kp, xn_kfn, xn_k0, xn_k1, xn_ku, xns, Nat.reduceLT, fget_cons, lget_cons, lget_nil, AV.islp, cond_false, cond_true, bin_and_u, bin_or_u, bin_xor_u, bin_andNot_u, bin_add_u, bin_sub_u, bin_eql_u, bin_neq_u, bin_gtr0_u, bin_add, bin_sub, bin_mul, bin_rem, bin_eql, bin_neq, bin_lss, bin_leq, bin_gtr, bin_geq, un_not, un_neg, Nat.reduceEqDiff, reduceIte, Int.reduceLT, Int.reduceNeg, apartAll, Rec.apart, Foot.meets, Rec.wl, Rec.wh, List.map_nil, List.any_nil, Foot.no, Foot.hide, hidden, hhide_nil, apart_one, apart_row, Bool.or_true, Bool.true_and, Bool.not_false, Bool.not_true, Bool.or_false, Bool.and_true, Nat.reduceAdd, List.getElem?_cons_succ, List.getElem?_cons_zero, List.append_nil, Int.reduceEq, callFl, decide_true, decide_false, Bool.false_eq_true, Nat.reduceLeDiff, List.drop_zero, List.take_succ_cons, List.take_zero, List.drop_succ_cons, AV.old, AV.olds, AV.cells, AS.keep, keepT, keepL, lpOk, Option.isSome_some, Option.isSome_none, Bool.and_self, Bool.cond_self, splice, afill, List.all_cons, List.all_nil, AV.one, Nat.testBit_eq_decide_div_mod_eq, Nat.reducePow, Nat.reduceDiv, Nat.reduceMod, Bool.true_or, List.map_cons, List.any_cons, List.elem_nil, Bool.false_or]
    exact next _ (by simp only [evO, evFn, run_of, runC_skip, runC_ret, runC_exit, runC_seq, runC_blk, runC_reg, runC_draw, runC_ite, runC_cut, retK_nil, retK_seq, retK_seq_ex, retK_seq_ret, retK_blk, retK_blk_ret, retK_blk_ex, runO_nil, runO_cons, runD_nil, runD_cons, gd, stepOp, evOp_mv, evOp_nchk, evOp_pop, evOp_pick, evOp_alloc_true, evOp_alloc_false, evOp_box_true, evOp_box_false, evOp_build, evOp_bslice, evOp_load, evOp_store, evOp_bin, evOp_eqs, evOp_eqb, evOp_eqnil, evOp_un, evOp_conv, evOp_fadr, evOp_fld, evOp_iadr, evOp_iadra, evOp_idx, evOp_idxs, evOp_slc, evOp_ext, evOp_mkf, evOp_mks, evOp_call, evOp_len_false, evOp_len_true, evOp_app, evOp_mm, AS.put, Eff.v, fput, happly_nil, AS.undef, fdel_nil, fdel_cons, nbeq_dec, nble_dec, nblt_dec, List.cons_append, hget_app, hlook_nil, hlook_cons, argsFr, outOf, aress, ares, List.length_cons, List.length_nil, Nat.zero_add, List.nil_append, xv_t, xv_k, xn_t, xn_ki, xn_ki8, xn_kb, xn_ks, xn_ksl, xn_kp, xn_kfn, xn_k0, xn_k1, xn_ku, xns, Nat.reduceLT, fget_cons, lget_cons, lget_nil, AV.islp, cond_false, cond_true, bin_and_u, bin_or_u, bin_xor_u, bin_andNot_u, bin_add_u, bin_sub_u, bin_eql_u, bin_neq_u, bin_gtr0_u, bin_add, bin_sub, bin_mul, bin_rem, bin_eql, bin_neq, bin_lss, bin_leq, bin_gtr, bin_geq, un_not, un_neg, Nat.reduceEqDiff, reduceIte, Int.reduceLT, Int.reduceNeg, apartAll, Rec.apart, Foot.meets, Rec.wl, Rec.wh, List.map_nil, List.any_nil, Foot.no, Foot.hide, hidden, hhide_nil, apart_one, apart_row, Bool.or_true, Bool.true_and, Bool.not_false, Bool.not_true, Bool.or_false, Bool.and_true, Nat.reduceAdd, List.getElem?_cons_succ, List.getElem?_cons_zero, List.append_nil, Int.reduceEq, callFl, decide_true, decide_false, Bool.false_eq_true, Nat.reduceLeDiff, List.drop_zero, List.take_succ_cons, List.take_zero, List.drop_succ_cons, AV.old, AV.olds, AV.cells, AS.keep, keepT, keepL, lpOk, Option.isSome_some, Option.isSome_none, Bool.and_self, Bool.cond_self, splice, afill, List.all_cons, List.all_nil, AV.one, Nat.testBit_eq_decide_div_mod_eq, Nat.reducePow, Nat.reduceDiv, Nat.reduceMod, Bool.true_or, List.map_cons, List.any_cons, List.elem_nil, Bool.false_or] <;> rfl)
theorem l12L0 (O : Orc) (F fl : Nat) (N : Nat) (r2 : List AV) (hN : N ≤ 64) (hlet : ∀ (h : AHeap) (n fl : Nat) (q : Int) (x : Bool), O 38 [.i .i64 N, .i .i64 q, .b x] h n fl = some ((let1 N q x).av, some (h, n))) (K : AE → AS → Option Res) : ∀ (m q n is id : Nat) (h : AHeap), q + m = N → fl ≤ n → Own h fl n (some is) (zs N q) → Own h fl n (some id) (xs N q) → is ≠ id →
    ∃ h' n' is' id', n ≤ n' ∧ Own h' fl n' (some is') (zs N N) ∧ Own h' fl n' (some id') (xs N N) ∧ (∀ i, i < fl → hget h' i = hget h i) ∧ ∀ (f : Nat) (s : AS), m ≤ f →
    s.keep [0, 2, 4, 5] [2, 4] = some ⟨[(0, .i .i64 N), (2, .lp 2 0), (4, .lp 4 0), (5, .i .i64 (q : Int))], [(2, r2), (4, [.i .i64 N, slOf (some is) (zs N q), slOf (some id) (xs N q)])], h, n⟩ →
    evLoop (evC O fl F a12L0) (f + 1) s K = K (.ex 0) ⟨[(2, .lp 2 0), (4, .lp 4 0)], [(2, r2), (4, [.i .i64 N, slOf (some is') (zs N N), slOf (some id') (xs N N)])], h', n'⟩ := by
  intro m
  induction m with
  | zero =>
    intro q n is id h hq hfl hS hD hne
    obtain rfl : q = N := by omega
    refine ⟨h, n, is, id, Nat.le_refl _, hS, hD, fun _ _ => rfl, fun f s _ hs => ?_⟩
    have h1 : ¬ ((q : Int) < (q : Int)) := by omega
    obtain ⟨k0, hk, hn, he, hr⟩ := @lk_all O fl F a12L0 f K
    rw [loop_succ, hk, a12L0, runC_cut, hs]
    simp -implicitDefEqProofs only [h1, he, evO, evFn, run_of, runC_skip, runC_ret, runC_exit, runC_seq, runC_blk, runC_reg, runC_draw, runC_ite, runC_cut, retK_nil, retK_seq, retK_seq_ex, retK_seq_ret, retK_blk, retK_blk_ret, retK_blk_ex, runO_nil, runO_cons, runD_nil, runD_cons, gd, stepOp, evOp_mv, evOp_nchk, evOp_pop, evOp_pick, evOp_alloc_true, evOp_alloc_false, evOp_box_true, evOp_box_false, evOp_build, evOp_bslice, evOp_load, evOp_store, evOp_bin, evOp_eqs, evOp_eqb, evOp_eqnil, evOp_un, evOp_conv, evOp_fadr, evOp_fld, evOp_iadr, evOp_iadra, evOp_idx, evOp_idxs, evOp_slc, evOp_ext, evOp_mkf, evOp_mks, evOp_call, evOp_len_false, evOp_len_true, evOp_app, evOp_mm, AS.put, Eff.v, fput, happly_nil, AS.undef, fdel_nil, fdel_cons, nbeq_dec, nble_dec, nblt_dec, List.cons_append, hget_app, hlook_nil, hlook_cons, argsFr, outOf, aress, ares, List.length_cons, List.length_nil, Nat.zero_add, List.nil_append, xv_t, xv_k, xn_t, xn_ki, xn_ki8, xn_kb, xn_ks, xn_ksl, xn_kp, xn_kfn, xn_k0, xn_k1, xn_ku, xns, Nat.reduceLT, fget_cons, lget_cons, lget_nil, AV.islp, cond_false, cond_true, bin_and_u, bin_or_u, bin_xor_u, bin_andNot_u, bin_add_u, bin_sub_u, bin_eql_u, bin_neq_u, bin_gtr0_u, bin_add, bin_sub, bin_mul, bin_rem, bin_eql, bin_neq, bin_lss, bin_leq, bin_gtr, bin_geq, un_not, un_neg, Nat.reduceEqDiff, reduceIte, Int.reduceLT, Int.reduceNeg, apartAll, Rec.apart, Foot.meets, Rec.wl, Rec.wh, List.map_nil, List.any_nil, Foot.no, Foot.hide, hidden, hhide_nil, apart_one, apart_row, Bool.or_true, Bool.true_and, Bool.not_false, Bool.not_true, Bool.or_false, Bool.and_true, Nat.reduceAdd, List.getElem?_cons_succ, List.getElem?_cons_zero, List.append_nil, Int.reduceEq, callFl, decide_true, decide_false, Bool.false_eq_true, Nat.reduceLeDiff, List.drop_zero, List.take_succ_cons, List.take_zero, List.drop_succ_cons, AV.old, AV.olds, AV.cells, AS.keep, keepT, keepL, lpOk, Option.isSome_some, Option.isSome_none, Bool.and_self, Bool.cond_self, splice, afill, List.all_cons, List.all_nil, AV.one, Nat.testBit_eq_decide_div_mod_eq, Nat.reducePow, Nat.reduceDiv, Nat.reduceMod, Bool.true_or, List.map_cons, List.any_cons, List.elem_nil, Bool.false_or]
  | succ m ih =>
    intro q n is id h hq hfl hS hD hne
    obtain ⟨h1, s1, d1, k1, g1⟩ := n112 O F fl n h N q r2 (by omega) hN hfl is id hS hD hne hlet K
    obtain ⟨h', n', is', id', q1, q2, q3, q4, q5⟩ := ih (q + 1) (n + 4) (n + 1) (n + 3) h1 (by omega) (by omega) s1 d1 (by omega)
    refine ⟨h', n', is', id', by omega, q2, q3, fun i hi => by rw [q4 i hi, k1 i hi], fun f s hf hs => ?_⟩
    obtain ⟨f, rfl⟩ : ∃ g, f = g + 1 := ⟨f - 1, by omega⟩
    exact g1 _ (f + 1) (fun s hs => q5 f s (by omega) hs) s hs
theorem L12L0 (O : Orc) (F fl : Nat) (N n : Nat) (h : AHeap) (r2 : List AV) (hN : N ≤ 64) (hfl : fl ≤ n) (hlet : ∀ (h : AHeap) (n fl : Nat) (q : Int) (x : Bool), O 38 [.i .i64 N, .i .i64 q, .b x] h n fl = some ((let1 N q x).av, some (h, n))) (K : AE → AS → Option Res) :
    ∃ h' n' as' ad', n ≤ n' ∧ Own h' fl n' as' (zs N N) ∧ Own h' fl n' ad' (xs N N) ∧ (∀ i, i < fl → hget h' i = hget h i) ∧ ∀ (f : Nat) (s : AS), 64 ≤ f →
    s.keep [0, 2, 4, 5] [2, 4] = some ⟨[(0, .i .i64 N), (2, .lp 2 0), (4, .lp 4 0), (5, .i .i64 0)], [(2, r2), (4, [.i .i64 N, slOf none (zs N 0), slOf none (xs N 0)])], h, n⟩ →
    evLoop (evC O fl F a12L0) (f + 1) s K = K (.ex 0) ⟨[(2, .lp 2 0), (4, .lp 4 0)], [(2, r2), (4, [.i .i64 N, slOf as' (zs N N), slOf ad' (xs N N)])], h', n'⟩ := by
  rcases Nat.eq_zero_or_pos N with z | z
  · subst z
    refine ⟨h, n, none, none, Nat.le_refl _, rfl, rfl, fun _ _ => rfl, fun f s _ hs => ?_⟩
    obtain ⟨k0, hk, hn, he, hr⟩ := @lk_all O fl F a12L0 f K
    rw [loop_succ, hk, a12L0, runC_cut, hs]
    simp -implicitDefEqProofs only [he, Int.natCast_zero, Int.lt_irrefl, evO, evFn, run_of, runC_skip, runC_ret, runC_exit, runC_seq, runC_blk, runC_reg, runC_draw, runC_ite, runC_cut, retK_nil, retK_seq, retK_seq_ex, retK_seq_ret, retK_blk, retK_blk_ret, retK_blk_ex, runO_nil, runO_cons, runD_nil, runD_cons, gd, stepOp, evOp_mv, evOp_nchk, evOp_pop, evOp_pick, evOp_alloc_true, evOp_alloc_false, evOp_box_true, evOp_box_false, evOp_build, evOp_bslice, evOp_load, evOp_store, evOp_bin, evOp_eqs, evOp_eqb, evOp_eqnil, evOp_un, evOp_conv, evOp_fadr, evOp_fld, evOp_iadr, evOp_iadra, evOp_idx, evOp_idxs, evOp_slc, evOp_ext, evOp_mkf, evOp_mks, evOp_call, evOp_len_false, evOp_len_true, evOp_app, evOp_mm, AS.put, Eff.v, fput, happly_nil, AS.undef, fdel_nil, fdel_cons, nbeq_dec, nble_dec, nblt_dec, List.cons_append, hget_app, hlook_nil, hlook_cons, argsFr, outOf, aress, ares, List.length_cons, List.length_nil, Nat.zero_add, List.nil_append, xv_t, xv_k, xn_t, xn_ki, xn_ki8, xn_kb, xn_ks, xn_ksl, xn_kp, xn_kfn, xn_k0, xn_k1, xn_ku, xns, Nat.reduceLT, fget_cons, lget_cons, lget_nil, AV.islp, cond_false, cond_true, bin_and_u, bin_or_u, bin_xor_u, bin_andNot_u, bin_add_u, bin_sub_u, bin_eql_u, bin_neq_u, bin_gtr0_u, bin_add, bin_sub, bin_mul, bin_rem, bin_eql, bin_neq, bin_lss, bin_leq, bin_gtr, bin_geq, un_not, un_neg, Nat.reduceEqDiff, reduceIte, Int.reduceLT, Int.reduceNeg, apartAll, Rec.apart, Foot.meets, Rec.wl, Rec.wh, List.map_nil, List.any_nil, Foot.no, Foot.hide, hidden, hhide_nil, apart_one, apart_row, Bool.or_true, Bool.true_and, Bool.not_false, Bool.not_true, Bool.or_false, Bool.and_true, Nat.reduceAdd, List.getElem?_cons_succ, List.getElem?_cons_zero, List.append_nil, Int.reduceEq, callFl, decide_true, decide_false, Bool.false_eq_true, Nat.reduceLeDiff, List.drop_zero, List.take_succ_cons, List.take_zero, List.drop_succ_cons, AV.old, AV.olds, AV.cells, AS.keep, keepT, keepL, lpOk, Option.isSome_some, Option.isSome_none, Bool.and_self, Bool.cond_self, splice, afill, List.all_cons, List.all_nil, AV.one, Nat.testBit_eq_decide_div_mod_eq, Nat.reducePow, Nat.reduceDiv, Nat.reduceMod, Bool.true_or, List.map_cons, List.any_cons, List.elem_nil, Bool.false_or]
  · obtain ⟨h1, s1, d1, k1, g1⟩ := n012 O F fl n h N r2 z hN hfl hlet K
    obtain ⟨h', n', is', id', q1, q2, q3, q4, q5⟩ := l12L0 O F fl N r2 hN hlet K (N - 1) 1 (n + 4) (n + 1) (n + 3) h1 (by omega) (by omega) s1 d1 (by omega)
    refine ⟨h', n', some is', some id', by omega, q2, q3, fun i hi => by rw [q4 i hi, k1 i hi], fun f s hf hs => ?_⟩
    obtain ⟨f, rfl⟩ : ∃ g, f = g + 1 := ⟨f - 1, by omega⟩
    exact g1 _ (f + 1) (fun s hs => q5 f s (by omega) hs) s hs
end Go.Proofs.YtogkkamlmklpkaaDoor.Ab
