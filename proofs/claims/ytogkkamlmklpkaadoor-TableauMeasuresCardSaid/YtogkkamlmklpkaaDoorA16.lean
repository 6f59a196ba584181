/- For evaluating with unknowns: words as bit vectors, whole numbers that stay in their kind, operands, reads. No condition: lemmas only. -/
import Derived.Test.YtogkkamlmklpkaaDoorA15
set_option linter.unusedVariables false
set_option linter.unusedSimpArgs false
namespace Go.Proofs.YtogkkamlmklpkaaDoor.Ab
open Go

/-- A word of 64 bits as the model's number. -/
def U (x : BitVec 64) : Int := x.toNat

theorem U_inj {a b : BitVec 64} : U a = U b ↔ a = b := by
  unfold U
  constructor
  · intro h; exact BitVec.eq_of_toNat_eq (by omega)
  · intro h; rw [h]
theorem U_lt (a : BitVec 64) : 0 ≤ U a ∧ U a < 18446744073709551616 := by
  unfold U; have := a.isLt; omega
theorem wrap_u (x : Int) : IntKind.u64.wrap x = U (BitVec.ofInt 64 x) := by
  have h : (2 : Int) ^ IntKind.u64.bits = 18446744073709551616 := by decide
  simp only [IntKind.wrap, h, IntKind.signed, Bool.false_and, Bool.false_eq_true, if_false, U, BitVec.toNat_ofInt]
  omega
theorem wrap_of {x : Int} (h : -9223372036854775808 ≤ x ∧ x < 9223372036854775808) : IntKind.i64.wrap x = x := by
  have e : (2 : Int) ^ IntKind.i64.bits = 18446744073709551616 := by decide
  have e2 : (2 : Int) ^ (IntKind.i64.bits - 1) = 9223372036854775808 := by decide
  simp only [IntKind.wrap, e, e2, IntKind.signed, Bool.true_and, decide_eq_true_eq]
  split <;> omega
theorem wrap_i (x : Int) : IntKind.i64.wrap x = (BitVec.ofInt 64 x).toInt := by
  have e : (2 : Int) ^ IntKind.i64.bits = 18446744073709551616 := by decide
  have e2 : (2 : Int) ^ (IntKind.i64.bits - 1) = 9223372036854775808 := by decide
  simp only [IntKind.wrap, e, e2, IntKind.signed, Bool.true_and, decide_eq_true_eq, BitVec.toInt_ofInt]
  rw [Int.bmod_def]
  simp only [Nat.reducePow]
  split <;> split <;> omega
theorem wrap_iU (x : BitVec 64) : IntKind.i64.wrap (U x) = x.toInt := by
  rw [wrap_i]
  congr 1
  unfold U
  simp

theorem bits64 : IntKind.u64.bits = 64 := rfl
theorem Umod (a : BitVec 64) : (U a % 2 ^ IntKind.u64.bits).toNat = a.toNat := by
  have e : (2 : Int) ^ IntKind.u64.bits = 18446744073709551616 := by decide
  rw [e]; unfold U; have := a.isLt; omega

theorem bit_and (a b : BitVec 64) : bitop .and .u64 (U a) (U b) = U (a &&& b) := by
  simp only [bitop, Umod, wrap_u]
  congr 1
  apply BitVec.eq_of_toNat_eq
  rw [BitVec.toNat_ofInt, BitVec.toNat_and]
  have h := (a &&& b).isLt
  rw [BitVec.toNat_and] at h
  simp only [Nat.reducePow] at h ⊢
  omega
theorem bit_or (a b : BitVec 64) : bitop .or .u64 (U a) (U b) = U (a ||| b) := by
  simp only [bitop, Umod, wrap_u]
  congr 1
  apply BitVec.eq_of_toNat_eq
  rw [BitVec.toNat_ofInt, BitVec.toNat_or]
  have h := (a ||| b).isLt
  rw [BitVec.toNat_or] at h
  simp only [Nat.reducePow] at h ⊢
  omega
theorem bit_xor (a b : BitVec 64) : bitop .xor .u64 (U a) (U b) = U (a ^^^ b) := by
  simp only [bitop, Umod, wrap_u]
  congr 1
  apply BitVec.eq_of_toNat_eq
  rw [BitVec.toNat_ofInt, BitVec.toNat_xor]
  have h := (a ^^^ b).isLt
  rw [BitVec.toNat_xor] at h
  simp only [Nat.reducePow] at h ⊢
  omega
theorem bit_andNot (a b : BitVec 64) : bitop .andNot .u64 (U a) (U b) = U (a &&& ~~~b) := by
  simp only [bitop, Umod, wrap_u]
  congr 1
  apply BitVec.eq_of_toNat_eq
  rw [BitVec.toNat_ofInt, BitVec.toNat_and, BitVec.toNat_not]
  have h := (a &&& ~~~b).isLt
  rw [BitVec.toNat_and, BitVec.toNat_not] at h
  simp only [bits64, Nat.reducePow] at h ⊢
  omega

theorem bin_and_u {a b : BitVec 64} : abin .and (.i .u64 (U a)) (.i .u64 (U b)) = some (.i .u64 (U (a &&& b))) := by
  show some (AV.i .u64 (bitop .and .u64 (U a) (U b))) = _; rw [bit_and]
theorem bin_or_u {a b : BitVec 64} : abin .or (.i .u64 (U a)) (.i .u64 (U b)) = some (.i .u64 (U (a ||| b))) := by
  show some (AV.i .u64 (bitop .or .u64 (U a) (U b))) = _; rw [bit_or]
theorem bin_xor_u {a b : BitVec 64} : abin .xor (.i .u64 (U a)) (.i .u64 (U b)) = some (.i .u64 (U (a ^^^ b))) := by
  show some (AV.i .u64 (bitop .xor .u64 (U a) (U b))) = _; rw [bit_xor]
theorem bin_andNot_u {a b : BitVec 64} : abin .andNot (.i .u64 (U a)) (.i .u64 (U b)) = some (.i .u64 (U (a &&& ~~~b))) := by
  show some (AV.i .u64 (bitop .andNot .u64 (U a) (U b))) = _; rw [bit_andNot]
theorem ofInt_U (a : BitVec 64) : BitVec.ofInt 64 (U a) = a := by unfold U; simp
theorem bin_add_u {a b : BitVec 64} : abin .add (.i .u64 (U a)) (.i .u64 (U b)) = some (.i .u64 (U (a + b))) := by
  show some (AV.i .u64 (IntKind.u64.wrap (U a + U b))) = _
  rw [wrap_u, BitVec.ofInt_add, ofInt_U, ofInt_U]
theorem bin_sub_u {a b : BitVec 64} : abin .sub (.i .u64 (U a)) (.i .u64 (U b)) = some (.i .u64 (U (a - b))) := by
  show some (AV.i .u64 (IntKind.u64.wrap (U a - U b))) = _
  rw [wrap_u]
  congr 3
  apply BitVec.eq_of_toNat_eq
  rw [BitVec.toNat_ofInt, BitVec.toNat_sub]
  unfold U
  have := a.isLt; have := b.isLt
  omega
theorem bin_eql_u {a b : BitVec 64} : abin .eql (.i .u64 (U a)) (.i .u64 (U b)) = some (.b (decide (a = b))) := by
  show some (AV.b (U a == U b)) = _
  congr 2
  rw [Bool.eq_iff_iff]
  simp [U_inj]
theorem bin_neq_u {a b : BitVec 64} : abin .neq (.i .u64 (U a)) (.i .u64 (U b)) = some (.b (decide (a ≠ b))) := by
  show some (AV.b (U a != U b)) = _
  congr 2
  rw [Bool.eq_iff_iff]
  simp [U_inj, bne_iff_ne]
theorem bin_gtr0_u {a : BitVec 64} : abin .gtr (.i .u64 (U a)) (.i .u64 (U 0#64)) = some (.b (decide (a ≠ 0#64))) := by
  show some (AV.b (decide (U a > U 0#64))) = _
  congr 2
  rw [Bool.eq_iff_iff]
  simp only [decide_eq_true_eq]
  have h0 : U 0#64 = 0 := rfl
  rw [h0]
  constructor
  · intro h e; rw [e, h0] at h; omega
  · intro h
    have := (U_lt a).1
    rcases Int.lt_or_eq_of_le this with q | q
    · exact q
    · exact absurd (U_inj.1 (by rw [h0, ← q])) h
theorem bin_shr_u {k : IntKind} {a : BitVec 64} {y : Int} (h : 0 ≤ y) : abin .shr (.i .u64 (U a)) (.i k y) = some (.i .u64 (U (a >>> y.toNat))) := by
  show (if y < 0 then none else some (AV.i .u64 ((U a).fdiv (2 ^ (min y.toNat 64))))) = _
  rw [if_neg (by omega)]
  congr 2
  unfold U
  have e : ((a.toNat : Int)).fdiv (2 ^ (min y.toNat 64)) = ((a.toNat / 2 ^ (min y.toNat 64) : Nat) : Int) := by
    rw [Int.fdiv_eq_ediv_of_nonneg _ (by exact_mod_cast Nat.zero_le _)]
    push_cast; rfl
  rw [e]
  congr 1
  rw [BitVec.toNat_ushiftRight, Nat.shiftRight_eq_div_pow]
  rcases Nat.le_total y.toNat 64 with q | q
  · rw [Nat.min_eq_left q]
  · rw [Nat.min_eq_right q, Nat.div_eq_of_lt a.isLt, Nat.div_eq_of_lt]
    exact Nat.lt_of_lt_of_le a.isLt (Nat.pow_le_pow_right (by omega) q)
theorem bin_shl_u {k : IntKind} {a : BitVec 64} {y : Int} (h : 0 ≤ y) : abin .shl (.i .u64 (U a)) (.i k y) = some (.i .u64 (U (a <<< y.toNat))) := by
  show (if y < 0 then none else some (AV.i .u64 (IntKind.u64.wrap (U a * 2 ^ (min y.toNat 64))))) = _
  rw [if_neg (by omega), wrap_u]
  congr 3
  apply BitVec.eq_of_toNat_eq
  have e : U a * 2 ^ (min y.toNat 64) = ((a.toNat * 2 ^ (min y.toNat 64) : Nat) : Int) := by unfold U; push_cast; rfl
  rw [e, BitVec.ofInt_natCast, BitVec.toNat_ofNat, BitVec.toNat_shiftLeft, Nat.shiftLeft_eq]
  rcases Nat.le_total y.toNat 64 with q | q
  · rw [Nat.min_eq_left q]
  · rw [Nat.min_eq_right q, Nat.mul_mod_left]
    obtain ⟨d, hd⟩ := Nat.exists_eq_add_of_le q
    rw [hd, Nat.pow_add, ← Nat.mul_assoc, Nat.mul_right_comm, Nat.mul_mod_left]

/-! ### Whole numbers -/
theorem bin_add {x y : Int} : abin .add (.i .i64 x) (.i .i64 y) = some (.i .i64 (IntKind.i64.wrap (x + y))) := id rfl
theorem bin_sub {x y : Int} : abin .sub (.i .i64 x) (.i .i64 y) = some (.i .i64 (IntKind.i64.wrap (x - y))) := id rfl
theorem bin_mul {x y : Int} : abin .mul (.i .i64 x) (.i .i64 y) = some (.i .i64 (IntKind.i64.wrap (x * y))) := id rfl
theorem bin_quo {x y : Int} : abin .quo (.i .i64 x) (.i .i64 y) = if y = 0 then none else some (.i .i64 (IntKind.i64.wrap (x.tdiv y))) := id rfl
theorem bin_rem {x y : Int} : abin .rem (.i .i64 x) (.i .i64 y) = if y = 0 then none else some (.i .i64 (x.tmod y)) := id rfl
theorem bin_eql {x y : Int} : abin .eql (.i .i64 x) (.i .i64 y) = some (.b (decide (x = y))) := by
  show some (AV.b (x == y)) = _; congr 2
theorem bin_neq {x y : Int} : abin .neq (.i .i64 x) (.i .i64 y) = some (.b (decide (x ≠ y))) := by
  show some (AV.b (x != y)) = _
  congr 2
  rw [Bool.eq_iff_iff]; simp
theorem bin_lss {x y : Int} : abin .lss (.i .i64 x) (.i .i64 y) = some (.b (decide (x < y))) := rfl
theorem bin_leq {x y : Int} : abin .leq (.i .i64 x) (.i .i64 y) = some (.b (decide (x ≤ y))) := rfl
theorem bin_gtr {x y : Int} : abin .gtr (.i .i64 x) (.i .i64 y) = some (.b (decide (x > y))) := rfl
theorem bin_geq {x y : Int} : abin .geq (.i .i64 x) (.i .i64 y) = some (.b (decide (x ≥ y))) := rfl
theorem bin_eql8 {x y : Int} : abin .eql (.i .u8 x) (.i .u8 y) = some (.b (decide (x = y))) := by
  show some (AV.b (x == y)) = _; congr 2
theorem un_not {x : Bool} : aun .not (.b x) = some (.b (!x)) := rfl
theorem un_neg {x : Int} : aun .neg (.i .i64 x) = some (.i .i64 (IntKind.i64.wrap (0 - x))) := rfl

/-! ### Operands -/
theorem xv_t {fr : List (Nat × AV)} {t : Nat} : xv fr (.t t) = fget fr t := rfl
theorem xv_k {fr : List (Nat × AV)} {v : AV} : xv fr (.k v) = some v := rfl
theorem xn_t {fr : List (Nat × AV)} {t : Nat} : xn fr (.t t) = match fget fr t with | some v => (bif v.islp then none else some v) | none => none := rfl
theorem xn_k {fr : List (Nat × AV)} {v : AV} : xn fr (.k v) = bif v.islp then none else some v := rfl
theorem xn_ku {fr : List (Nat × AV)} {m : Nat} (h : m < 18446744073709551616) : xn fr (.k (.i .u64 (OfNat.ofNat m))) = some (.i .u64 (U (BitVec.ofNat 64 m))) := by
  show some (AV.i .u64 (OfNat.ofNat m)) = _
  congr 2
  unfold U
  rw [BitVec.toNat_ofNat]
  have : m % 2 ^ 64 = m := Nat.mod_eq_of_lt (by simpa using h)
  rw [this]; rfl
theorem xn_ki {fr : List (Nat × AV)} {m : Int} : xn fr (.k (.i .i64 m)) = some (.i .i64 m) := rfl
theorem xn_ki8 {fr : List (Nat × AV)} {m : Int} : xn fr (.k (.i .u8 m)) = some (.i .u8 m) := rfl
theorem xn_kb {fr : List (Nat × AV)} {m : Bool} : xn fr (.k (.b m)) = some (.b m) := rfl
theorem xn_ks {fr : List (Nat × AV)} {m : ByteArray} : xn fr (.k (.s m)) = some (.s m) := rfl
theorem xn_ksl {fr : List (Nat × AV)} {a : Option (Nat × Nat)} {n : Nat} {c : ACap} : xn fr (.k (.sl a n c)) = some (.sl a n c) := rfl
theorem xn_kp {fr : List (Nat × AV)} {a : Option (Nat × Nat)} : xn fr (.k (.p a)) = some (.p a) := rfl
theorem xn_kfn {fr : List (Nat × AV)} {f : Fn} {x y : List AV} : xn fr (.k (.fn f x y)) = some (.fn f x y) := rfl
theorem xn_k1 {fr : List (Nat × AV)} : xn fr (.k (.i .u64 1)) = some (.i .u64 (U 1#64)) := rfl
theorem xn_k0 {fr : List (Nat × AV)} : xn fr (.k (.i .u64 0)) = some (.i .u64 (U 0#64)) := rfl
theorem islp_i {k : IntKind} {x : Int} : (AV.i k x).islp = false := rfl
theorem islp_b {x : Bool} : (AV.b x).islp = false := rfl
theorem islp_s {x : ByteArray} : (AV.s x).islp = false := rfl
theorem islp_sl {a : Option (Nat × Nat)} {n : Nat} {c : ACap} : (AV.sl a n c).islp = false := rfl
theorem islp_p {a : Option (Nat × Nat)} : (AV.p a).islp = false := rfl
theorem islp_agg {x : List AV} : (AV.agg x).islp = false := rfl
theorem islp_tup {x : List AV} : (AV.tup x).islp = false := rfl
theorem islp_fn {f : Fn} {x y : List AV} : (AV.fn f x y).islp = false := rfl
theorem nbeq_self (n : Nat) : Nat.beq n n = true := Nat.beq_refl n
theorem happly_nil {h : AHeap} : happly h [] = h := rfl
theorem hget_app {h : AHeap} {l : List (Nat × Option ABlk)} {id : Nat} : hget (happly h l) id = match hlook l id with | some b => b | none => hget h id := hget_happly h l id
theorem nbeq_ne {a b : Nat} (h : a ≠ b) : Nat.beq a b = false := beq_false.2 h
theorem nble_le {a b : Nat} (h : a ≤ b) : Nat.ble a b = true := Nat.ble_eq_true_of_le h
theorem nblt_lt {a b : Nat} (h : a < b) : Nat.blt a b = true := by rw [Nat.blt_eq]; exact h
theorem inb_lt {j : Int} {n : Nat} (h : 0 ≤ j ∧ j < n) : inb j n = true := by
  simp only [inb, Bool.and_eq_true, decide_eq_true_eq]; exact h

theorem nbeq_dec (a b : Nat) : Nat.beq a b = decide (a = b) := by
  by_cases h : a = b
  · subst h; simp [Nat.beq_refl]
  · rw [beq_false.2 h]; simp [h]
theorem nble_dec (a b : Nat) : Nat.ble a b = decide (a ≤ b) := by
  rw [Bool.eq_iff_iff, Nat.ble_eq]; simp
theorem nblt_dec (a b : Nat) : Nat.blt a b = decide (a < b) := by
  rw [Bool.eq_iff_iff, Nat.blt_eq]; simp
theorem fdel_nil {t : Nat} : fdel [] t = [] := rfl
theorem fdel_cons {k t : Nat} {v : AV} {r : List (Nat × AV)} : fdel ((k, v) :: r) t = if k = t then fdel r t else (k, v) :: fdel r t := by
  simp only [fdel, nbeq_dec]
  by_cases h : k = t <;> simp [h]
theorem hlook_nil {t : Nat} : hlook [] t = none := rfl
theorem hlook_cons {k t : Nat} {v : Option ABlk} {r : List (Nat × Option ABlk)} : hlook ((k, v) :: r) t = if k = t then some v else hlook r t := by
  simp only [hlook_nl, hlook_cns, nbeq_dec]
  by_cases h : k = t <;> simp [h]
theorem hhide_nil {h : AHeap} : hhide [] h = h := by
  induction h with
  | nil => rfl
  | cons p r ih =>
    obtain ⟨k, b⟩ := p
    show (bif List.elem k [] then hhide [] r else (k, b) :: hhide [] r) = _
    rw [ih]; rfl
theorem apart_one {c : AV} {cs : List AV} {off : Nat} : apart_ (c :: cs) off none = (c :: cs)[off]? := id rfl
theorem apart_row {c : AV} {cs : List AV} {off n : Nat} : apart_ (c :: cs) off (some n) = bif Nat.ble (off + n) (c :: cs).length then some (.agg (((c :: cs).drop off).take n)) else none := id rfl
theorem evD_zero {O : Orc} {f : Nat → Option AFn} {F : Nat} : evD O f F 0 = O := rfl
theorem evD_succ {O : Orc} {f : Nat → Option AFn} {F d : Nat} : evD O f F (d + 1) = evO (evD O f F d) f F := rfl


/-! ### The evaluator once more, with a stack in place of a continuation -/
noncomputable def stepOp (O : Orc) (fl : Nat) (d : Option Nat) (op : AOp) (s : AS) : Option (Eff × Foot) := evOp O fl d op s fun e f => some (e, f)
theorem evOp_step {ρ : Type} {O : Orc} {fl : Nat} {d : Option Nat} {op : AOp} {s : AS} {k : Eff → Foot → Option ρ} : evOp O fl d op s k = match stepOp O fl d op s with | some (e, f) => k e f | none => none := by
  unfold stepOp
  cases op with
  | alloc lc ty z => cases lc <;> simp only [evOp_mv, evOp_nchk, evOp_pop, evOp_pick, evOp_alloc_true, evOp_alloc_false, evOp_box_true, evOp_box_false, evOp_build, evOp_bslice, evOp_load, evOp_store, evOp_bin, evOp_eqs, evOp_eqb, evOp_eqnil, evOp_un, evOp_conv, evOp_fadr, evOp_fld, evOp_iadr, evOp_iadra, evOp_idx, evOp_idxs, evOp_slc, evOp_ext, evOp_mkf, evOp_mks, evOp_call, evOp_len_false, evOp_len_true, evOp_app, evOp_mm, Bool.cond_eq_ite] <;> (repeat' split) <;> first | rfl | (simp_all; done)
  | box lc ty z => cases lc <;> simp only [evOp_mv, evOp_nchk, evOp_pop, evOp_pick, evOp_alloc_true, evOp_alloc_false, evOp_box_true, evOp_box_false, evOp_build, evOp_bslice, evOp_load, evOp_store, evOp_bin, evOp_eqs, evOp_eqb, evOp_eqnil, evOp_un, evOp_conv, evOp_fadr, evOp_fld, evOp_iadr, evOp_iadra, evOp_idx, evOp_idxs, evOp_slc, evOp_ext, evOp_mkf, evOp_mks, evOp_call, evOp_len_false, evOp_len_true, evOp_app, evOp_mm, Bool.cond_eq_ite] <;> (repeat' split) <;> first | rfl | (simp_all; done)
  | len b x => cases b <;> simp only [evOp_mv, evOp_nchk, evOp_pop, evOp_pick, evOp_alloc_true, evOp_alloc_false, evOp_box_true, evOp_box_false, evOp_build, evOp_bslice, evOp_load, evOp_store, evOp_bin, evOp_eqs, evOp_eqb, evOp_eqnil, evOp_un, evOp_conv, evOp_fadr, evOp_fld, evOp_iadr, evOp_iadra, evOp_idx, evOp_idxs, evOp_slc, evOp_ext, evOp_mkf, evOp_mks, evOp_call, evOp_len_false, evOp_len_true, evOp_app, evOp_mm, Bool.cond_eq_ite] <;> (repeat' split) <;> first | rfl | (simp_all; done)
  | _ =>
    simp only [evOp_mv, evOp_nchk, evOp_pop, evOp_pick, evOp_alloc_true, evOp_alloc_false, evOp_box_true, evOp_box_false, evOp_build, evOp_bslice, evOp_load, evOp_store, evOp_bin, evOp_eqs, evOp_eqb, evOp_eqnil, evOp_un, evOp_conv, evOp_fadr, evOp_fld, evOp_iadr, evOp_iadra, evOp_idx, evOp_idxs, evOp_slc, evOp_ext, evOp_mkf, evOp_mks, evOp_call, evOp_len_false, evOp_len_true, evOp_app, evOp_mm, Bool.cond_eq_ite]
    (repeat' split) <;> first | rfl | (simp_all; done)

inductive Fr where
  | seq (b : AC)
  | blk (id : Nat)

section
variable (O : Orc) (fl F : Nat)
noncomputable def kont : List Fr → (AE → AS → Option Res) → AE → AS → Option Res
  | [], k => k
  | .seq b :: st, k => fun e s => match e with
    | .nrm => evC O fl F b s (kont st k)
    | e => kont st k e s
  | .blk id :: st, k => fun e s => match e with
    | .ex j => bif Nat.beq j id then kont st k .nrm s else kont st k (.ex j) s
    | e => kont st k e s
noncomputable def runC (c : AC) (s : AS) (st : List Fr) (k : AE → AS → Option Res) : Option Res := evC O fl F c s (kont O fl F st k)
noncomputable def runO (l : List AOper) (s : AS) (st : List Fr) (k : AE → AS → Option Res) : Option Res := evOps O fl l s (kont O fl F st k .nrm)
noncomputable def runD (j : Nat) (l : List AOper) (s : AS) (rs : List Rec) (st : List Fr) (k : AE → AS → Option Res) : Option Res := evDraw O fl j l s rs (kont O fl F st k .nrm)
noncomputable def retK (e : AE) (s : AS) (st : List Fr) (k : AE → AS → Option Res) : Option Res := kont O fl F st k e s
end

/-- What comes behind a loop's round. -/
noncomputable def lk (O : Orc) (fl F : Nat) (a : AC) (f : Nat) (K : AE → AS → Option Res) : AE → AS → Option Res := fun e s' => match e with
  | .nrm => evLoop (evC O fl F a) f s' K
  | e => K e s'
theorem lk_nrm {O : Orc} {fl F : Nat} {a : AC} {f : Nat} {K : AE → AS → Option Res} {s : AS} : lk O fl F a f K .nrm s = evLoop (evC O fl F a) f s K := rfl
theorem lk_ex {O : Orc} {fl F : Nat} {a : AC} {f id : Nat} {K : AE → AS → Option Res} {s : AS} : lk O fl F a f K (.ex id) s = K (.ex id) s := rfl
theorem lk_ret {O : Orc} {fl F : Nat} {a : AC} {f : Nat} {K : AE → AS → Option Res} {s : AS} : lk O fl F a f K .ret s = K .ret s := rfl
theorem loop_succ {O : Orc} {fl F : Nat} {a : AC} {f : Nat} {K : AE → AS → Option Res} {s : AS} : evLoop (evC O fl F a) (f + 1) s K = runC O fl F a s [] (lk O fl F a f K) := rfl
theorem runC_loop {O : Orc} {fl F : Nat} {a : AC} {st : List Fr} {k : AE → AS → Option Res} {s : AS} : runC O fl F (.loop a) s st k = evLoop (evC O fl F a) F s (kont O fl F st k) := rfl
theorem kont_ret {O : Orc} {fl F : Nat} {e : AE} {st : List Fr} {k : AE → AS → Option Res} {s : AS} : kont O fl F st k e s = retK O fl F e s st k := rfl

/-- Is it wanted? -/
noncomputable def gd (fr : List (Nat × AV)) : Option (Nat × Bool) → Option Bool
  | none => some true
  | some (t, w) => match fget fr t with
    | some (.b b) => some (bif w then b else !b)
    | some (.tup []) => some false
    | _ => none

section
variable {O : Orc} {fl F : Nat} {s : AS} {st : List Fr} {k : AE → AS → Option Res}
theorem run_of {c : AC} : evC O fl F c s k = runC O fl F c s [] k := rfl
theorem runC_skip : runC O fl F .skip s st k = retK O fl F .nrm s st k := rfl
theorem runC_ret : runC O fl F .ret s st k = retK O fl F .ret s st k := rfl
theorem runC_exit {id : Nat} : runC O fl F (.exit id) s st k = retK O fl F (.ex id) s st k := rfl
theorem runC_seq {a b : AC} : runC O fl F (.seq a b) s st k = runC O fl F a s (.seq b :: st) k := rfl
theorem runC_blk {id : Nat} {a : AC} : runC O fl F (.blk id a) s st k = runC O fl F a s (.blk id :: st) k := rfl
theorem runC_reg {l : List AOper} : runC O fl F (.reg false l) s st k = runO O fl F l s st k := rfl
theorem runC_draw {l : List AOper} : runC O fl F (.reg true l) s st k = runD O fl F 0 l s [] st k := rfl
theorem runC_ite {c : AX} {a b : AC} : runC O fl F (.ite c a b) s st k = match xn s.fr c with
    | some (.b true) => runC O fl F a s st k
    | some (.b false) => runC O fl F b s st k
    | _ => none := rfl
theorem runC_cut {ts ls : List Nat} {a : AC} : runC O fl F (.cut ts ls a) s st k = match s.keep ts ls with
    | some s' => runC O fl F a s' st k
    | none => none := rfl
theorem retK_nil {e : AE} : retK O fl F e s [] k = k e s := rfl
theorem retK_seq {b : AC} : retK O fl F .nrm s (.seq b :: st) k = runC O fl F b s st k := rfl
theorem retK_seq_ex {b : AC} {id : Nat} : retK O fl F (.ex id) s (.seq b :: st) k = retK O fl F (.ex id) s st k := rfl
theorem retK_seq_ret {b : AC} : retK O fl F .ret s (.seq b :: st) k = retK O fl F .ret s st k := rfl
theorem retK_blk {id : Nat} : retK O fl F .nrm s (.blk id :: st) k = retK O fl F .nrm s st k := rfl
theorem retK_blk_ret {id : Nat} : retK O fl F .ret s (.blk id :: st) k = retK O fl F .ret s st k := rfl
theorem retK_blk_ex {id j : Nat} : retK O fl F (.ex j) s (.blk id :: st) k = if j = id then retK O fl F .nrm s st k else retK O fl F (.ex j) s st k := by
  show (bif Nat.beq j id then _ else _) = _
  rw [nbeq_dec]
  by_cases h : j = id <;> simp [h, retK]
theorem runO_nil : runO O fl F [] s st k = retK O fl F .nrm s st k := rfl
theorem runO_cons {o : AOper} {r : List AOper} : runO O fl F (o :: r) s st k = match gd s.fr o.guard with
    | some true => (match stepOp O fl o.dst o.op s with
      | some (e, _) => runO O fl F r (s.put o.dst e) st k
      | none => none)
    | some false => runO O fl F r (s.undef o.dst) st k
    | none => none := by
  obtain ⟨d, g, op, bef⟩ := o
  unfold runO
  cases g with
  | none => simp only [evOps, gd]; rw [evOp_step]
  | some p =>
    obtain ⟨t, w⟩ := p
    simp only [evOps, gd]
    cases fget s.fr t with
    | none => rfl
    | some v =>
      cases v <;> try rfl
      case tup l => cases l <;> rfl
      rename_i b
      cases b <;> cases w <;> simp only [cond_true, cond_false, Bool.not_true, Bool.not_false] <;> first | rfl | rw [evOp_step]
theorem runD_nil {j : Nat} {rs : List Rec} : runD O fl F j [] s rs st k = retK O fl F .nrm s st k := rfl
theorem runD_cons {j : Nat} {o : AOper} {r : List AOper} {rs : List Rec} : runD O fl F j (o :: r) s rs st k = match gd s.fr o.guard with
    | some true => (match stepOp O fl o.dst o.op { s with h := hhide (hidden o.bef rs) s.h } with
      | some (e, f) => (match e.all with
        | some _ => none
        | none => if apartAll o.bef ⟨j, f.hide s.n (hidden o.bef rs), o.dst, e⟩ rs = true then runD O fl F (j + 1) r (s.put o.dst e) (⟨j, f.hide s.n (hidden o.bef rs), o.dst, e⟩ :: rs) st k else none)
      | none => none)
    | some false => runD O fl F (j + 1) r (s.undef o.dst) (⟨j, .no, o.dst, ⟨some (.tup []), [], [], s.n, none⟩⟩ :: rs) st k
    | none => none := by
  obtain ⟨d, g, op, bef⟩ := o
  have key : (evOp O fl d op { s with h := hhide (hidden bef rs) s.h } fun e f =>
        match e.all with
        | some _ => none
        | none =>
          let x : Rec := ⟨j, f.hide s.n (hidden bef rs), d, e⟩
          bif apartAll bef x rs then evDraw O fl (j + 1) r (s.put d e) (x :: rs) (kont O fl F st k .nrm) else none) =
      (match stepOp O fl d op { s with h := hhide (hidden bef rs) s.h } with
      | some (e, f) => (match e.all with
        | some _ => none
        | none => if apartAll bef ⟨j, f.hide s.n (hidden bef rs), d, e⟩ rs = true then runD O fl F (j + 1) r (s.put d e) (⟨j, f.hide s.n (hidden bef rs), d, e⟩ :: rs) st k else none)
      | none => none) := by
    rw [evOp_step]
    cases stepOp O fl d op { s with h := hhide (hidden bef rs) s.h } with
    | none => rfl
    | some p =>
      obtain ⟨e, f⟩ := p
      simp only
      cases e.all with
      | some _ => rfl
      | none =>
        simp only
        cases apartAll bef ⟨j, f.hide s.n (hidden bef rs), d, e⟩ rs <;> rfl
  cases g with
  | none => exact key
  | some p =>
    obtain ⟨t, w⟩ := p
    unfold runD
    simp only [evDraw, gd]
    cases fget s.fr t with
    | none => rfl
    | some v =>
      cases v <;> try rfl
      case tup l => cases l <;> rfl
      rename_i b
      cases b <;> cases w <;> simp only [cond_true, cond_false, Bool.not_true, Bool.not_false] <;> first | rfl | exact key
end

end Go.Proofs.YtogkkamlmklpkaaDoor.Ab
