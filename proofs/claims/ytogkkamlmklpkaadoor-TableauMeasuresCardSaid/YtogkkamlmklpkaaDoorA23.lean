/- The rules by which an evaluation with unknowns is rewritten, as one conjunction. No condition: lemmas only. -/
import Derived.Test.YtogkkamlmklpkaaDoorA22
set_option linter.unusedSimpArgs false
set_option linter.unusedVariables false
set_option maxRecDepth 100000
namespace Go.Proofs.YtogkkamlmklpkaaDoor.Ab
open Go

theorem zislp_b {x : Bool} : (AV.islp (.b x)) = false := rfl
theorem zislp_i {k : IntKind} {n : Int} : (AV.islp (.i k n)) = false := rfl
theorem zislp_f {k : FloatKind} {n : Nat} : (AV.islp (.f k n)) = false := rfl
theorem zislp_c {k : FloatKind} {n m : Nat} : (AV.islp (.c k n m)) = false := rfl
theorem zislp_s {x : ByteArray} : (AV.islp (.s x)) = false := rfl
theorem zislp_pn  : (AV.islp (.p none)) = false := rfl
theorem zislp_ps {a b : Nat} : (AV.islp (.p (some (a, b)))) = false := rfl
theorem zislp_sn {a : Nat} {cap : ACap} : (AV.islp (.sl none a cap)) = false := rfl
theorem zislp_ss {a b c : Nat} {cap : ACap} : (AV.islp (.sl (some (a, b)) c cap)) = false := rfl
theorem zislp_fn {g : Fn} {x y : List AV} : (AV.islp (.fn g x y)) = false := rfl
theorem zislp_nf  : (AV.islp .nilfn) = false := rfl
theorem zislp_ni  : (AV.islp .nilif) = false := rfl
theorem zislp_ag {cs : List AV} : (AV.islp (.agg cs)) = false := rfl
theorem zislp_tu {cs : List AV} : (AV.islp (.tup cs)) = false := rfl
theorem zislp_vs {a : Nat} {cap : ACap} {cs : List AV} : (AV.islp (.vs a cap cs)) = false := rfl
theorem zislp_vp {cs : List AV} : (AV.islp (.vp cs)) = false := rfl
theorem zcells_b {x : Bool} : (AV.cells (.b x)) = [(.b x)] := rfl
theorem zcells_i {k : IntKind} {n : Int} : (AV.cells (.i k n)) = [(.i k n)] := rfl
theorem zcells_f {k : FloatKind} {n : Nat} : (AV.cells (.f k n)) = [(.f k n)] := rfl
theorem zcells_c {k : FloatKind} {n m : Nat} : (AV.cells (.c k n m)) = [(.c k n m)] := rfl
theorem zcells_s {x : ByteArray} : (AV.cells (.s x)) = [(.s x)] := rfl
theorem zcells_pn  : (AV.cells (.p none)) = [(.p none)] := rfl
theorem zcells_ps {a b : Nat} : (AV.cells (.p (some (a, b)))) = [(.p (some (a, b)))] := rfl
theorem zcells_lp {a b : Nat} : (AV.cells (.lp a b)) = [(.lp a b)] := rfl
theorem zcells_sn {a : Nat} {cap : ACap} : (AV.cells (.sl none a cap)) = [(.sl none a cap)] := rfl
theorem zcells_ss {a b c : Nat} {cap : ACap} : (AV.cells (.sl (some (a, b)) c cap)) = [(.sl (some (a, b)) c cap)] := rfl
theorem zcells_fn {g : Fn} {x y : List AV} : (AV.cells (.fn g x y)) = [(.fn g x y)] := rfl
theorem zcells_nf  : (AV.cells .nilfn) = [.nilfn] := rfl
theorem zcells_ni  : (AV.cells .nilif) = [.nilif] := rfl
theorem zcells_tu {cs : List AV} : (AV.cells (.tup cs)) = [(.tup cs)] := rfl
theorem zcells_vs {a : Nat} {cap : ACap} {cs : List AV} : (AV.cells (.vs a cap cs)) = [(.vs a cap cs)] := rfl
theorem zcells_vp {cs : List AV} : (AV.cells (.vp cs)) = [(.vp cs)] := rfl
theorem zone_b {x : Bool} : (AV.one (.b x)) = true := rfl
theorem zone_i {k : IntKind} {n : Int} : (AV.one (.i k n)) = true := rfl
theorem zone_f {k : FloatKind} {n : Nat} : (AV.one (.f k n)) = true := rfl
theorem zone_c {k : FloatKind} {n m : Nat} : (AV.one (.c k n m)) = true := rfl
theorem zone_s {x : ByteArray} : (AV.one (.s x)) = true := rfl
theorem zone_pn  : (AV.one (.p none)) = true := rfl
theorem zone_ps {a b : Nat} : (AV.one (.p (some (a, b)))) = true := rfl
theorem zone_sn {a : Nat} {cap : ACap} : (AV.one (.sl none a cap)) = true := rfl
theorem zone_ss {a b c : Nat} {cap : ACap} : (AV.one (.sl (some (a, b)) c cap)) = true := rfl
theorem zone_fn {g : Fn} {x y : List AV} : (AV.one (.fn g x y)) = true := rfl
theorem zone_nf  : (AV.one .nilfn) = true := rfl
theorem zone_ni  : (AV.one .nilif) = true := rfl
theorem zone_vs {a : Nat} {cap : ACap} {cs : List AV} : (AV.one (.vs a cap cs)) = true := rfl
theorem zone_vp {cs : List AV} : (AV.one (.vp cs)) = true := rfl
theorem zfrz_b {x : Bool} {okv : Bool} {base f0 : Nat} {h : AHeap} : frz okv base h (f0 + 1) (.b x) = some (.b x) := rfl
theorem zfrz_i {k : IntKind} {n : Int} {okv : Bool} {base f0 : Nat} {h : AHeap} : frz okv base h (f0 + 1) (.i k n) = some (.i k n) := rfl
theorem zfrz_f {k : FloatKind} {n : Nat} {okv : Bool} {base f0 : Nat} {h : AHeap} : frz okv base h (f0 + 1) (.f k n) = some (.f k n) := rfl
theorem zfrz_c {k : FloatKind} {n m : Nat} {okv : Bool} {base f0 : Nat} {h : AHeap} : frz okv base h (f0 + 1) (.c k n m) = some (.c k n m) := rfl
theorem zfrz_s {x : ByteArray} {okv : Bool} {base f0 : Nat} {h : AHeap} : frz okv base h (f0 + 1) (.s x) = some (.s x) := rfl
theorem zfrz_pn {okv : Bool} {base f0 : Nat} {h : AHeap} : frz okv base h (f0 + 1) (.p none) = some (.p none) := rfl
theorem zfrz_nf {okv : Bool} {base f0 : Nat} {h : AHeap} : frz okv base h (f0 + 1) .nilfn = some .nilfn := rfl
theorem zfrz_ni {okv : Bool} {base f0 : Nat} {h : AHeap} : frz okv base h (f0 + 1) .nilif = some .nilif := rfl
theorem znor_b {x : Bool} : (AV.nor (.b x)) = true := rfl
theorem znor_i {k : IntKind} {n : Int} : (AV.nor (.i k n)) = true := rfl
theorem znor_f {k : FloatKind} {n : Nat} : (AV.nor (.f k n)) = true := rfl
theorem znor_c {k : FloatKind} {n m : Nat} : (AV.nor (.c k n m)) = true := rfl
theorem znor_s {x : ByteArray} : (AV.nor (.s x)) = true := rfl
theorem znor_pn  : (AV.nor (.p none)) = true := rfl
theorem znor_sn {a : Nat} {cap : ACap} : (AV.nor (.sl none a cap)) = true := rfl
theorem znor_nf  : (AV.nor .nilfn) = true := rfl
theorem znor_ni  : (AV.nor .nilif) = true := rfl
theorem znn_b {x : Bool} : (AV.nn (.b x)) = (.b x) := rfl
theorem znn_i {k : IntKind} {n : Int} : (AV.nn (.i k n)) = (.i k n) := rfl
theorem znn_f {k : FloatKind} {n : Nat} : (AV.nn (.f k n)) = (.f k n) := rfl
theorem znn_c {k : FloatKind} {n m : Nat} : (AV.nn (.c k n m)) = (.c k n m) := rfl
theorem znn_s {x : ByteArray} : (AV.nn (.s x)) = (.s x) := rfl
theorem znn_pn  : (AV.nn (.p none)) = (.p none) := rfl
theorem znn_ps {a b : Nat} : (AV.nn (.p (some (a, b)))) = (.p (some (a, b))) := rfl
theorem znn_lp {a b : Nat} : (AV.nn (.lp a b)) = (.lp a b) := rfl
theorem znn_ss {a b c : Nat} {cap : ACap} : (AV.nn (.sl (some (a, b)) c cap)) = (.sl (some (a, b)) c cap) := rfl
theorem znn_fn {g : Fn} {x y : List AV} : (AV.nn (.fn g x y)) = (.fn g x y) := rfl
theorem znn_nf  : (AV.nn .nilfn) = .nilfn := rfl
theorem znn_ni  : (AV.nn .nilif) = .nilif := rfl
theorem znn_vs {a : Nat} {cap : ACap} {cs : List AV} : (AV.nn (.vs a cap cs)) = (.vs a cap cs) := rfl
theorem znn_vp {cs : List AV} : (AV.nn (.vp cs)) = (.vp cs) := rfl
theorem zids_b {x : Bool} {base : Nat} {l : List Nat} : AV.ids base (.b x) l = l := rfl
theorem zids_i {k : IntKind} {n : Int} {base : Nat} {l : List Nat} : AV.ids base (.i k n) l = l := rfl
theorem zids_f {k : FloatKind} {n : Nat} {base : Nat} {l : List Nat} : AV.ids base (.f k n) l = l := rfl
theorem zids_c {k : FloatKind} {n m : Nat} {base : Nat} {l : List Nat} : AV.ids base (.c k n m) l = l := rfl
theorem zids_s {x : ByteArray} {base : Nat} {l : List Nat} : AV.ids base (.s x) l = l := rfl
theorem zids_pn {base : Nat} {l : List Nat} : AV.ids base (.p none) l = l := rfl
theorem zids_lp {a b : Nat} {base : Nat} {l : List Nat} : AV.ids base (.lp a b) l = l := rfl
theorem zids_sn {a : Nat} {cap : ACap} {base : Nat} {l : List Nat} : AV.ids base (.sl none a cap) l = l := rfl
theorem zids_nf {base : Nat} {l : List Nat} : AV.ids base .nilfn l = l := rfl
theorem zids_ni {base : Nat} {l : List Nat} : AV.ids base .nilif l = l := rfl
theorem zren_b {x : Bool} {base nb : Nat} {l : List Nat} : AV.ren base nb l (.b x) = some (.b x) := rfl
theorem zren_i {k : IntKind} {n : Int} {base nb : Nat} {l : List Nat} : AV.ren base nb l (.i k n) = some (.i k n) := rfl
theorem zren_f {k : FloatKind} {n : Nat} {base nb : Nat} {l : List Nat} : AV.ren base nb l (.f k n) = some (.f k n) := rfl
theorem zren_c {k : FloatKind} {n m : Nat} {base nb : Nat} {l : List Nat} : AV.ren base nb l (.c k n m) = some (.c k n m) := rfl
theorem zren_s {x : ByteArray} {base nb : Nat} {l : List Nat} : AV.ren base nb l (.s x) = some (.s x) := rfl
theorem zren_pn {base nb : Nat} {l : List Nat} : AV.ren base nb l (.p none) = some (.p none) := rfl
theorem zren_lp {a b : Nat} {base nb : Nat} {l : List Nat} : AV.ren base nb l (.lp a b) = some (.lp a b) := rfl
theorem zren_sn {a : Nat} {cap : ACap} {base nb : Nat} {l : List Nat} : AV.ren base nb l (.sl none a cap) = some (.sl none a cap) := rfl
theorem zren_nf {base nb : Nat} {l : List Nat} : AV.ren base nb l .nilfn = some .nilfn := rfl
theorem zren_ni {base nb : Nat} {l : List Nat} : AV.ren base nb l .nilif = some .nilif := rfl
theorem zold_b {x : Bool} {n0 : Nat} : AV.old n0 (.b x) = true := rfl
theorem zold_i {k : IntKind} {n : Int} {n0 : Nat} : AV.old n0 (.i k n) = true := rfl
theorem zold_f {k : FloatKind} {n : Nat} {n0 : Nat} : AV.old n0 (.f k n) = true := rfl
theorem zold_c {k : FloatKind} {n m : Nat} {n0 : Nat} : AV.old n0 (.c k n m) = true := rfl
theorem zold_s {x : ByteArray} {n0 : Nat} : AV.old n0 (.s x) = true := rfl
theorem zold_pn {n0 : Nat} : AV.old n0 (.p none) = true := rfl
theorem zold_sn {a : Nat} {cap : ACap} {n0 : Nat} : AV.old n0 (.sl none a cap) = true := rfl
theorem zold_nf {n0 : Nat} : AV.old n0 .nilfn = true := rfl
theorem zold_ni {n0 : Nat} : AV.old n0 .nilif = true := rfl
theorem zlpOk_b {x : Bool} {loc : List (Nat × List AV)} {t : Nat} {r : List (Nat × AV)} : lpOk loc ((t, (.b x)) :: r) = lpOk loc r := rfl
theorem zlpOk_i {k : IntKind} {n : Int} {loc : List (Nat × List AV)} {t : Nat} {r : List (Nat × AV)} : lpOk loc ((t, (.i k n)) :: r) = lpOk loc r := rfl
theorem zlpOk_f {k : FloatKind} {n : Nat} {loc : List (Nat × List AV)} {t : Nat} {r : List (Nat × AV)} : lpOk loc ((t, (.f k n)) :: r) = lpOk loc r := rfl
theorem zlpOk_c {k : FloatKind} {n m : Nat} {loc : List (Nat × List AV)} {t : Nat} {r : List (Nat × AV)} : lpOk loc ((t, (.c k n m)) :: r) = lpOk loc r := rfl
theorem zlpOk_s {x : ByteArray} {loc : List (Nat × List AV)} {t : Nat} {r : List (Nat × AV)} : lpOk loc ((t, (.s x)) :: r) = lpOk loc r := rfl
theorem zlpOk_pn {loc : List (Nat × List AV)} {t : Nat} {r : List (Nat × AV)} : lpOk loc ((t, (.p none)) :: r) = lpOk loc r := rfl
theorem zlpOk_ps {a b : Nat} {loc : List (Nat × List AV)} {t : Nat} {r : List (Nat × AV)} : lpOk loc ((t, (.p (some (a, b)))) :: r) = lpOk loc r := rfl
theorem zlpOk_sn {a : Nat} {cap : ACap} {loc : List (Nat × List AV)} {t : Nat} {r : List (Nat × AV)} : lpOk loc ((t, (.sl none a cap)) :: r) = lpOk loc r := rfl
theorem zlpOk_ss {a b c : Nat} {cap : ACap} {loc : List (Nat × List AV)} {t : Nat} {r : List (Nat × AV)} : lpOk loc ((t, (.sl (some (a, b)) c cap)) :: r) = lpOk loc r := rfl
theorem zlpOk_fn {g : Fn} {x y : List AV} {loc : List (Nat × List AV)} {t : Nat} {r : List (Nat × AV)} : lpOk loc ((t, (.fn g x y)) :: r) = lpOk loc r := rfl
theorem zlpOk_nf {loc : List (Nat × List AV)} {t : Nat} {r : List (Nat × AV)} : lpOk loc ((t, .nilfn) :: r) = lpOk loc r := rfl
theorem zlpOk_ni {loc : List (Nat × List AV)} {t : Nat} {r : List (Nat × AV)} : lpOk loc ((t, .nilif) :: r) = lpOk loc r := rfl
theorem zlpOk_ag {cs : List AV} {loc : List (Nat × List AV)} {t : Nat} {r : List (Nat × AV)} : lpOk loc ((t, (.agg cs)) :: r) = lpOk loc r := rfl
theorem zlpOk_tu {cs : List AV} {loc : List (Nat × List AV)} {t : Nat} {r : List (Nat × AV)} : lpOk loc ((t, (.tup cs)) :: r) = lpOk loc r := rfl
theorem zlpOk_vs {a : Nat} {cap : ACap} {cs : List AV} {loc : List (Nat × List AV)} {t : Nat} {r : List (Nat × AV)} : lpOk loc ((t, (.vs a cap cs)) :: r) = lpOk loc r := rfl
theorem zlpOk_vp {cs : List AV} {loc : List (Nat × List AV)} {t : Nat} {r : List (Nat × AV)} : lpOk loc ((t, (.vp cs)) :: r) = lpOk loc r := rfl
theorem zcall2 {fl n : Nat} : callFl 2 fl n = fl := rfl
theorem zspl1 {α : Type} {k : Nat} {c : α} {cs : List α} : splice [] k (c :: cs) = [] := rfl
theorem zspl2 {α : Type} {x : α} {l : List α} {k : Nat} {c : α} {cs : List α} : splice (x :: l) (k + 1) (c :: cs) = x :: splice l k (c :: cs) := rfl
theorem zspl0 {α : Type} {l : List α} {k : Nat} : splice l k [] = l := splice_nil l k
theorem zhid {base f0 : Nat} {h : AHeap} {l : List Nat} : hidss base h (f0 + 1) [] l = l := rfl
theorem zappn {h : AHeap} {esz : Nat} : appNew h esz .nilif = none := rfl
def EV0 := PLift.up (And.intro @run_of (And.intro @runC_skip (And.intro @runC_ret (And.intro @runC_exit (And.intro @runC_seq (And.intro @runC_blk (And.intro @runC_reg (And.intro @runC_draw (And.intro @runC_ite (And.intro @runC_cut (And.intro @runC_cutg (And.intro @retK_nil (And.intro @retK_seq (And.intro @retK_seq_ex (And.intro @retK_seq_ret (And.intro @retK_blk (And.intro @retK_blk_ret (And.intro @retK_blk_ex (And.intro @runO_nil (And.intro @runO_cons (And.intro @runD_nil (And.intro @runD_cons (And.intro @evOp_mv (And.intro @evOp_nchk (And.intro @evOp_pop (And.intro @evOp_pick (And.intro @evOp_alloc_true (And.intro @evOp_alloc_false (And.intro @evOp_box_true (And.intro @evOp_box_false (And.intro @evOp_build (And.intro @evOp_bslice (And.intro @evOp_load (And.intro @evOp_store (And.intro @evOp_bin (And.intro @evOp_eqs (And.intro @evOp_eqb (And.intro @evOp_eqnil (And.intro @evOp_un (And.intro @evOp_conv (And.intro @evOp_fadr (And.intro @evOp_fld (And.intro @evOp_iadr (And.intro @evOp_iadra (And.intro @evOp_idx (And.intro @evOp_idxs' (And.intro @evOp_slc (And.intro @evOp_ext (And.intro @evOp_mkf (And.intro @evOp_mks (And.intro @evOp_call (And.intro @evOp_len_false (And.intro @evOp_len_true (And.intro @evOp_app (And.intro @evOp_mm (And.intro @happly_nil (And.intro @happly_set (And.intro @happly_del (And.intro @hset_eq @hput_cons)))))))))))))))))))))))))))))))))))))))))))))))))))))))))))
def EV1 := PLift.up (And.intro @hput_nil (And.intro @hdel_cons (And.intro @hdel_nil (And.intro @hget_cons (And.intro @hget_nil (And.intro @fdel_nil (And.intro @fdel_cons (And.intro @nbeq_dec (And.intro @nble_dec (And.intro @nblt_dec (And.intro @List.cons_append.{0} (And.intro @hlook_nil (And.intro @hlook_cons (And.intro @List.length_cons.{0} (And.intro @List.length_nil.{0} (And.intro @Nat.zero_add (And.intro @List.nil_append.{0} (And.intro @xv_t (And.intro @xv_k (And.intro @xn_t (And.intro @xn_kint (And.intro @xn_kb (And.intro @xn_ks (And.intro @xn_ksl (And.intro @xn_kp (And.intro @xn_kfn (And.intro @fget_cons (And.intro @lget_cons (And.intro @lget_nil (And.intro @cond_false.{1} (And.intro @cond_true.{1} (And.intro @bin_and_u (And.intro @bin_or_u (And.intro @bin_xor_u (And.intro @bin_andNot_u (And.intro @bin_add_u (And.intro @bin_sub_u (And.intro @bin_mul_u' (And.intro @un_neg_u' (And.intro @bin_eql_u (And.intro @bin_neq_u (And.intro @bin_gtr0_u (And.intro @bin_add (And.intro @bin_sub (And.intro @bin_mul (And.intro @bin_quo (And.intro @bin_rem (And.intro @bin_eql (And.intro @bin_neq (And.intro @bin_eql8 (And.intro @bin_neq8 (And.intro @bin_lss (And.intro @bin_leq (And.intro @bin_gtr (And.intro @bin_geq (And.intro @bin_and_i (And.intro @bin_or_i (And.intro @bin_xor_i (And.intro @bin_s_eql @bin_s_neq)))))))))))))))))))))))))))))))))))))))))))))))))))))))))))
def EV2 := PLift.up (And.intro @shl_uu' (And.intro @shr_uu' (And.intro @shl_ui (And.intro @shr_ui (And.intro @shl_neg (And.intro @shr_neg (And.intro @un_not (And.intro @un_neg (And.intro @List.map_nil.{0, 0} (And.intro @List.any_nil.{0} (And.intro @hhide_nil (And.intro @apart_one (And.intro @apart_row (And.intro @Bool.or_true (And.intro @Bool.true_and (And.intro @Bool.not_false (And.intro @Bool.not_true (And.intro @Bool.or_false (And.intro @Bool.and_true (And.intro @List.getElem?_cons_succ.{0} (And.intro @List.getElem?_cons_zero.{0} (And.intro @List.append_nil.{0} (And.intro @decide_true (And.intro @decide_false (And.intro @Bool.false_eq_true (And.intro @List.drop_zero.{0} (And.intro @List.take_succ_cons.{0} (And.intro @List.take_zero.{0} (And.intro @List.drop_succ_cons.{0} (And.intro @Option.isSome_some.{0} (And.intro @Option.isSome_none.{0} (And.intro @Bool.and_self (And.intro @Bool.cond_self.{1} (And.intro @List.all_cons.{0} (And.intro @List.all_nil.{0} (And.intro @Nat.testBit_eq_decide_div_mod_eq (And.intro @Bool.true_or (And.intro @List.map_cons.{0, 0} (And.intro @List.any_cons.{0} (And.intro @List.elem_nil.{0} (And.intro @Bool.false_or (And.intro @Bool.false_and (And.intro @Bool.and_false (And.intro @not_true_eq_false (And.intro @not_false_eq_true (And.intro @conv_u' (And.intro @wrap_iU (And.intro @ofInt_U (And.intro @u64_0 (And.intro @u64_1 (And.intro @Nat.sub_self (And.intro @List.reverse_cons.{0} (And.intro @List.reverse_nil.{0} (And.intro @Nat.add_zero (And.intro @enc_nil (And.intro @aeqs_i (And.intro @aeqs_u (And.intro @aeqs_b (And.intro @aeqs_nil @cond_ff)))))))))))))))))))))))))))))))))))))))))))))))))))))))))))
def EV3 := PLift.up (And.intro @Int.toNat_natCast (And.intro @Nat.mul_one (And.intro @Bool.not_not (And.intro @and_self (And.intro @true_and (And.intro @and_true (And.intro @List.length_set.{0} (And.intro @List.length_append.{0} (And.intro @enc_append (And.intro @Nat.sub_zero (And.intro @Nat.zero_mul (And.intro @List.elem_cons.{0} (And.intro @hnew_nil (And.intro @hnew_cons (And.intro @eq_self.{1} (And.intro @List.length_eq_zero_iff.{0} (And.intro @hhide_nil (And.intro @List.append_eq_nil_iff.{0} (And.intro @evFn.eq_1 (And.intro @gd.eq_1 (And.intro @gd.eq_2 (And.intro @stepOp.eq_1 (And.intro @AS.put.eq_1 (And.intro @Eff.v.eq_1 (And.intro @fput.eq_1 (And.intro @fput.eq_2 (And.intro @fput.eq_3 (And.intro @AS.undef.eq_1 (And.intro @argsFr.eq_1 (And.intro @argsFr.eq_2 (And.intro @outOf.eq_1 (And.intro @aress.eq_1 (And.intro @aress.eq_2 (And.intro @ares.eq_1 (And.intro @ares.eq_2 (And.intro @xns.eq_1 (And.intro @xns.eq_2 (And.intro @AV.islp.eq_1 (And.intro @apartAll.eq_1 (And.intro @apartAll.eq_2 (And.intro @Rec.apart.eq_1 (And.intro @Foot.meets.eq_1 (And.intro @Rec.wl.eq_1 (And.intro @Rec.wh.eq_1 (And.intro @Foot.no.eq_1 (And.intro @Foot.hide.eq_1 (And.intro @hidden.eq_1 (And.intro @hidden.eq_2 (And.intro @callFl.eq_1 (And.intro @callFl.eq_2 (And.intro @AV.cells.eq_1 (And.intro @AS.keep.eq_1 (And.intro @keepT.eq_1 (And.intro @keepT.eq_2 (And.intro @keepL.eq_1 (And.intro @keepL.eq_2 (And.intro @lpOk.eq_1 (And.intro @lpOk.eq_2 (And.intro @splice.eq_1 @splice.eq_3)))))))))))))))))))))))))))))))))))))))))))))))))))))))))))
def EV4 := PLift.up (And.intro @afill.eq_1 (And.intro @afill.eq_2 (And.intro @AV.one.eq_1 (And.intro @AV.one.eq_2 (And.intro @AV.one.eq_3 (And.intro @frz.eq_1 (And.intro @frz.eq_2 (And.intro @frz.eq_3 (And.intro @frz.eq_4 (And.intro @frz.eq_5 (And.intro @frz.eq_6 (And.intro @frz.eq_7 (And.intro @frz.eq_8 (And.intro @frz.eq_9 (And.intro @frz.eq_10 (And.intro @frzs.eq_1 (And.intro @frzs.eq_2 (And.intro @AV.nor.eq_1 (And.intro @AV.nor.eq_2 (And.intro @AV.nor.eq_3 (And.intro @AV.nor.eq_4 (And.intro @AV.nor.eq_5 (And.intro @AV.nor.eq_6 (And.intro @AV.nor.eq_7 (And.intro @AV.nor.eq_8 (And.intro @AV.nors.eq_1 (And.intro @AV.nors.eq_2 (And.intro @AV.nn.eq_1 (And.intro @AV.nn.eq_2 (And.intro @AV.nn.eq_3 (And.intro @AV.nns.eq_1 (And.intro @AV.nns.eq_2 (And.intro @AS.keepG.eq_1 (And.intro @fidss.eq_1 (And.intro @fidss.eq_2 (And.intro @lidss.eq_1 (And.intro @lidss.eq_2 (And.intro @AV.ids.eq_1 (And.intro @AV.ids.eq_2 (And.intro @AV.ids.eq_3 (And.intro @AV.ids.eq_4 (And.intro @AV.ids.eq_5 (And.intro @AV.ids.eq_6 (And.intro @AV.ids.eq_7 (And.intro @AV.idss.eq_1 (And.intro @AV.idss.eq_2 (And.intro @hidss.eq_1 (And.intro @hidss.eq_3 (And.intro @frens.eq_1 (And.intro @frens.eq_2 (And.intro @lrens.eq_1 (And.intro @lrens.eq_2 (And.intro @AV.ren.eq_1 (And.intro @AV.ren.eq_2 (And.intro @AV.ren.eq_3 (And.intro @AV.ren.eq_4 (And.intro @AV.ren.eq_5 (And.intro @AV.ren.eq_6 (And.intro @AV.ren.eq_7 @AV.rens.eq_1)))))))))))))))))))))))))))))))))))))))))))))))))))))))))))
def EV5 := PLift.up (And.intro @AV.rens.eq_2 (And.intro @newId.eq_1 (And.intro @posOf.eq_1 (And.intro @posOf.eq_2 (And.intro @hrens.eq_1 (And.intro @hrens.eq_2 (And.intro @hlow.eq_1 (And.intro @hlow.eq_2 (And.intro @AV.old.eq_1 (And.intro @AV.old.eq_2 (And.intro @AV.old.eq_3 (And.intro @AV.old.eq_4 (And.intro @AV.old.eq_5 (And.intro @AV.old.eq_6 (And.intro @AV.old.eq_7 (And.intro @AV.old.eq_8 (And.intro @AV.olds.eq_1 (And.intro @AV.olds.eq_2 (And.intro @appNew.eq_1 (And.intro @appNew.eq_2 (And.intro @newCells.eq_1 (And.intro @newCells.eq_2 (And.intro @oldCells.eq_1 (And.intro @ownAt.eq_1 (And.intro @hhide.eq_1 (And.intro @hhide.eq_2 (And.intro @ownIds.eq_1 (And.intro @hown.eq_1 (And.intro @hown.eq_2 (And.intro @abound.eq_1 (And.intro @abound.eq_2 (And.intro @slcOff.eq_1 (And.intro @slcOff.eq_2 (And.intro @slcCap.eq_1 (And.intro @slcCap.eq_2 (And.intro @slcCap.eq_3 (And.intro @slcCap.eq_4 (And.intro @slcCapV.eq_1 (And.intro @slcCapV.eq_2 (And.intro @pickm.eq_1 (And.intro @pickm.eq_2 (And.intro @slcOk.eq_1 (And.intro @slcOk.eq_2 (And.intro @zislp_b (And.intro @zislp_i (And.intro @zislp_f (And.intro @zislp_c (And.intro @zislp_s (And.intro @zislp_pn (And.intro @zislp_ps (And.intro @zislp_sn (And.intro @zislp_ss (And.intro @zislp_fn (And.intro @zislp_nf (And.intro @zislp_ni (And.intro @zislp_ag (And.intro @zislp_tu (And.intro @zislp_vs (And.intro @zislp_vp @zcells_b)))))))))))))))))))))))))))))))))))))))))))))))))))))))))))
def EV6 := PLift.up (And.intro @zcells_i (And.intro @zcells_f (And.intro @zcells_c (And.intro @zcells_s (And.intro @zcells_pn (And.intro @zcells_ps (And.intro @zcells_lp (And.intro @zcells_sn (And.intro @zcells_ss (And.intro @zcells_fn (And.intro @zcells_nf (And.intro @zcells_ni (And.intro @zcells_tu (And.intro @zcells_vs (And.intro @zcells_vp (And.intro @zone_b (And.intro @zone_i (And.intro @zone_f (And.intro @zone_c (And.intro @zone_s (And.intro @zone_pn (And.intro @zone_ps (And.intro @zone_sn (And.intro @zone_ss (And.intro @zone_fn (And.intro @zone_nf (And.intro @zone_ni (And.intro @zone_vs (And.intro @zone_vp (And.intro @zfrz_b (And.intro @zfrz_i (And.intro @zfrz_f (And.intro @zfrz_c (And.intro @zfrz_s (And.intro @zfrz_pn (And.intro @zfrz_nf (And.intro @zfrz_ni (And.intro @znor_b (And.intro @znor_i (And.intro @znor_f (And.intro @znor_c (And.intro @znor_s (And.intro @znor_pn (And.intro @znor_sn (And.intro @znor_nf (And.intro @znor_ni (And.intro @znn_b (And.intro @znn_i (And.intro @znn_f (And.intro @znn_c (And.intro @znn_s (And.intro @znn_pn (And.intro @znn_ps (And.intro @znn_lp (And.intro @znn_ss (And.intro @znn_fn (And.intro @znn_nf (And.intro @znn_ni (And.intro @znn_vs @znn_vp)))))))))))))))))))))))))))))))))))))))))))))))))))))))))))
def EV7 := PLift.up (And.intro @zids_b (And.intro @zids_i (And.intro @zids_f (And.intro @zids_c (And.intro @zids_s (And.intro @zids_pn (And.intro @zids_lp (And.intro @zids_sn (And.intro @zids_nf (And.intro @zids_ni (And.intro @zren_b (And.intro @zren_i (And.intro @zren_f (And.intro @zren_c (And.intro @zren_s (And.intro @zren_pn (And.intro @zren_lp (And.intro @zren_sn (And.intro @zren_nf (And.intro @zren_ni (And.intro @zold_b (And.intro @zold_i (And.intro @zold_f (And.intro @zold_c (And.intro @zold_s (And.intro @zold_pn (And.intro @zold_sn (And.intro @zold_nf (And.intro @zold_ni (And.intro @zlpOk_b (And.intro @zlpOk_i (And.intro @zlpOk_f (And.intro @zlpOk_c (And.intro @zlpOk_s (And.intro @zlpOk_pn (And.intro @zlpOk_ps (And.intro @zlpOk_sn (And.intro @zlpOk_ss (And.intro @zlpOk_fn (And.intro @zlpOk_nf (And.intro @zlpOk_ni (And.intro @zlpOk_ag (And.intro @zlpOk_tu (And.intro @zlpOk_vs (And.intro @zlpOk_vp (And.intro @zcall2 (And.intro @zspl1 (And.intro @zspl2 (And.intro @zspl0 (And.intro @zhid @zappn))))))))))))))))))))))))))))))))))))))))))))))))))
end Go.Proofs.YtogkkamlmklpkaaDoor.Ab
