/- For evaluating with unknowns, by contents: how a call, a cut, a memory are rewritten. No condition: lemmas only. -/
import Derived.Test.YtogkkamlmklpkaaDoorA20
set_option linter.unusedVariables false
set_option linter.unusedSimpArgs false
namespace Go.Proofs.YtogkkamlmklpkaaDoor.Ab
open Go

/-! ### Memories that are lists -/
theorem hput_nil {id : Nat} {x : ABlk} : hput [] id x = [] := rfl
theorem hput_cons {k id : Nat} {b x : ABlk} {r : AHeap} : hput ((k, b) :: r) id x = if k = id then (k, x) :: r else (k, b) :: hput r id x := by
  simp only [hput, nbeq_dec]
  by_cases h : k = id <;> simp [h]
theorem hdel_nil {id : Nat} : hdel [] id = [] := rfl
theorem hdel_cons {k id : Nat} {b : ABlk} {r : AHeap} : hdel ((k, b) :: r) id = if k = id then hdel r id else (k, b) :: hdel r id := by
  simp only [hdel, nbeq_dec]
  by_cases h : k = id <;> simp [h]
theorem happly_del {h : AHeap} {id : Nat} {r : List (Nat × Option ABlk)} : happly h ((id, none) :: r) = hdel (happly h r) id := rfl
/-- A block is put or added. -/
noncomputable def hset (h : AHeap) (id : Nat) (b : ABlk) : AHeap := if (hget h id).isSome then hput h id b else (id, b) :: h
theorem happly_set {h : AHeap} {id : Nat} {b : ABlk} {r : List (Nat × Option ABlk)} : happly h ((id, some b) :: r) = hset (happly h r) id b := by
  simp only [happly, hset]
  cases hget (happly h r) id <;> simp
theorem hset_eq {h : AHeap} {id : Nat} {b : ABlk} : hset h id b = if (hget h id).isSome then hput h id b else (id, b) :: h := rfl
theorem hnew_nil {n : Nat} : hnew [] n = [] := rfl
theorem hnew_cons {k n : Nat} {b : ABlk} {r : AHeap} : hnew ((k, b) :: r) n = if n ≤ k then (k, b) :: hnew r n else hnew r n := by
  simp only [hnew, nble_dec]
  by_cases h : n ≤ k <;> simp [h]
theorem hglb_zero {h : AHeap} : hglb h 0 = [] := rfl
theorem hglb_succ {h : AHeap} {k : Nat} : hglb h (k + 1) = match hget h k with
    | some b => bif AV.nors b.cells then (k, ⟨false, false, b.ty, b.esz, b.cells⟩) :: hglb h k else hglb h k
    | none => hglb h k := rfl

/-! ### Calls -/
section
variable {ng : Nat} {O : Orc} {fs : Nat → Option AFn} {F : Nat}
/-- A function's word by contents (its result frozen): its arguments already in place. -/
noncomputable def evW (ng : Nat) (O : Orc) (F : Nat) (f : AFn) (a : Option (List AV)) (q : Bool) (G : AHeap) : Option (AV × Option (AHeap × Nat)) := match a with
  | none => none
  | some args => match evFn O ng F f args G ng with
    | none => none
    | some (v, h', _) => match frz q ng h' 8 v with
      | some v' => some (v', none)
      | none => none
/-- The same, its result's blocks the caller's own. -/
noncomputable def evX (ng : Nat) (O : Orc) (F : Nat) (f : AFn) (a : Option (List AV)) (q : Bool) (G : AHeap) (n : Nat) : Option (AV × Option (AHeap × Nat)) := match a with
  | none => none
  | some args => match evFn O ng F f args G ng with
    | none => none
    | some (v, h', _) => bif q then
        match AV.ren ng n (ownIds ng v) v with
        | some v' => match hown h' ng n (ownIds ng v) n (ownIds ng v) with
          | some news => some (AV.nn v', some (news, n + (ownIds ng v).length))
          | none => none
        | none => none
      else none
theorem evV_frozen {D g n : Nat} {f : AFn} {args : List AV} {h : AHeap} (hf : fs g = some f) : evV ng O fs F (D + 1) g args h n (n + 1) = evW ng (evV ng O fs F D) F f (frzs (frz true 0 (bif AV.nors args then [] else h) 8) args) (AV.nors args) (hglb h ng) := by
  show evP ng (evV ng O fs F D) fs F g args h n (n + 1) = _
  unfold evP evW
  simp only [hf, Nat.beq_refl, Bool.true_or, cond_true]
  cases frzs (frz true 0 (bif AV.nors args then [] else h) 8) args with
  | none => rfl
  | some a =>
    simp only
    cases evFn (evV ng O fs F D) ng F f a (hglb h ng) ng with
    | none => rfl
    | some r => obtain ⟨v, h', n'⟩ := r; rfl
theorem evV_own {D g n : Nat} {f : AFn} {args : List AV} {h : AHeap} (hf : fs g = some f) : evV ng O fs F (D + 1) g args h n n = evX ng (evV ng O fs F D) F f (frzs (frz true 0 (bif AV.nors args then [] else h) 8) args) (AV.nors args) (hglb h ng) n := by
  show evP ng (evV ng O fs F D) fs F g args h n n = _
  unfold evP evX
  have h1 : Nat.beq n (n + 1) = false := beq_false.2 (by omega)
  simp only [hf, Nat.beq_refl, Bool.or_true, cond_true, h1, cond_false]
  cases frzs (frz true 0 (bif AV.nors args then [] else h) 8) args with
  | none => rfl
  | some a =>
    simp only
    cases evFn (evV ng O fs F D) ng F f a (hglb h ng) ng with
    | none => rfl
    | some r => obtain ⟨v, h', n'⟩ := r; rfl
theorem evV_write {D g n fl : Nat} {f : AFn} {args : List AV} {h : AHeap} (hf : fs g = some f) (hn : f.body.nog = true) (h1 : fl ≠ n) (h2 : fl ≠ n + 1) : evV ng O fs F (D + 1) g args h n fl = match evFn (evV ng O fs F D) fl F f args h n with
    | some (v, h', n') => some (v, some (h', n'))
    | none => none := by
  show evP ng (evV ng O fs F D) fs F g args h n fl = _
  unfold evP
  simp only [hf, beq_false.2 h1, beq_false.2 h2, Bool.or_self, cond_false, hn, cond_true]
  cases evFn (evV ng O fs F D) fl F f args h n <;> rfl
/-- What no function is is asked of the oracle. -/
theorem evV_base {g n fl : Nat} {args : List AV} {h : AHeap} (hf : fs g = none) : ∀ D, evV ng O fs F D g args h n fl = O g args h n fl
  | 0 => rfl
  | D + 1 => by
    show evP ng (evV ng O fs F D) fs F g args h n fl = _
    unfold evP
    simp only [hf]
    exact evV_base hf D
theorem evW_some {f : AFn} {a : List AV} {q : Bool} {G : AHeap} : evW ng O F f (some a) q G = match evFn O ng F f a G ng with
    | none => none
    | some (v, h', _) => match frz q ng h' 8 v with
      | some v' => some (v', none)
      | none => none := rfl
theorem evX_some {f : AFn} {a : List AV} {q : Bool} {G : AHeap} {n : Nat} : evX ng O F f (some a) q G n = match evFn O ng F f a G ng with
    | none => none
    | some (v, h', _) => bif q then
        match AV.ren ng n (ownIds ng v) v with
        | some v' => match hown h' ng n (ownIds ng v) n (ownIds ng v) with
          | some news => some (AV.nn v', some (news, n + (ownIds ng v).length))
          | none => none
        | none => none
      else none := rfl
end

theorem runC_cutg {O : Orc} {fl F : Nat} {st : List Fr} {k : AE → AS → Option Res} {s : AS} {base : Nat} {ts ls : List Nat} {a : AC} : runC O fl F (.cutg base ts ls a) s st k = match s.keepG base ts ls with
    | some s' => runC O fl F a s' st k
    | none => none := rfl
/-- A byte of a string. -/
def bidx (b : ByteArray) (j : Int) : Option Int := if 0 ≤ j then (match b[j.toNat]? with | some c => some (c.toNat : Int) | none => none) else none
theorem evOp_idxs' {ρ : Type} {O : Orc} {fl : Nat} {d : Option Nat} {s : AS} {k : Eff → Foot → Option ρ} (x i : AX) : evOp O fl d (.idxs x i) s k = match xn s.fr x with
    | some (.s b) => match xn s.fr i with
      | some (.i _ j) => match bidx b j with
        | some c => k (.v (.i .u8 c) s.n) .no
        | none => none
      | _ => none
    | _ => none := by
  rw [evOp_idxs]
  cases xn s.fr x with
  | none => rfl
  | some v =>
    cases v <;> try rfl
    rename_i b
    cases xn s.fr i with
    | none => rfl
    | some u =>
      cases u <;> try rfl
      rename_i kk j
      simp only [bidx]
      by_cases h : 0 ≤ j
      · simp only [if_pos h]
        cases b[j.toNat]? <;> rfl
      · simp only [if_neg h]
theorem xn_kint {fr : List (Nat × AV)} {k : IntKind} {m : Int} : xn fr (.k (.i k m)) = some (.i k m) := rfl
theorem hnewz : True := trivial
theorem lk_all {O : Orc} {fl F : Nat} {a : AC} {f : Nat} {K : AE → AS → Option Res} : ∃ k0, lk O fl F a f K = k0 ∧ (∀ s, k0 .nrm s = evLoop (evC O fl F a) f s K) ∧ (∀ id s, k0 (.ex id) s = K (.ex id) s) ∧ (∀ s, k0 .ret s = K .ret s) :=
  ⟨_, rfl, fun _ => rfl, fun _ _ => rfl, fun _ => rfl⟩
theorem u64_lit {m : Nat} (h : m < 18446744073709551616) : AV.i .u64 (OfNat.ofNat m) = .i .u64 (U (BitVec.ofNat 64 m)) := by
  congr 1
  unfold U
  rw [BitVec.toNat_ofNat]
  have : m % 2 ^ 64 = m := Nat.mod_eq_of_lt (by simpa using h)
  rw [this]; rfl
theorem u64_0 : AV.i .u64 0 = .i .u64 (U 0#64) := rfl
theorem u64_1 : AV.i .u64 1 = .i .u64 (U 1#64) := rfl
theorem conv_u' (x : Int) : AV.i .u64 (IntKind.u64.wrap x) = .i .u64 (U (BitVec.ofInt 64 x)) := by rw [wrap_u]
theorem toNat_U' (x : BitVec 64) : (U x).toNat = x.toNat := by unfold U; simp
theorem shl_uu' {a b : BitVec 64} : abin .shl (.i .u64 (U a)) (.i .u64 (U b)) = some (.i .u64 (U (a <<< b.toNat))) := by rw [bin_shl_u (U_lt _).1, toNat_U']
theorem shr_uu' {a b : BitVec 64} : abin .shr (.i .u64 (U a)) (.i .u64 (U b)) = some (.i .u64 (U (a >>> b.toNat))) := by rw [bin_shr_u (U_lt _).1, toNat_U']
theorem shl_ui {a : BitVec 64} {y : Int} (h : ¬ y < 0) : abin .shl (.i .u64 (U a)) (.i .i64 y) = some (.i .u64 (U (a <<< y.toNat))) := bin_shl_u (by omega)
theorem shr_ui {a : BitVec 64} {y : Int} (h : ¬ y < 0) : abin .shr (.i .u64 (U a)) (.i .i64 y) = some (.i .u64 (U (a >>> y.toNat))) := bin_shr_u (by omega)
theorem shl_neg {k : IntKind} {a y : Int} {k' : IntKind} (h : y < 0) : abin .shl (.i k a) (.i k' y) = none := by
  show (if y < 0 then none else _) = _
  rw [if_pos h]
theorem shr_neg {k : IntKind} {a y : Int} {k' : IntKind} (h : y < 0) : abin .shr (.i k a) (.i k' y) = none := by
  show (if y < 0 then none else _) = _
  rw [if_pos h]
theorem bin_mul_u' {a b : BitVec 64} : abin .mul (.i .u64 (U a)) (.i .u64 (U b)) = some (.i .u64 (U (a * b))) := by
  show some (AV.i .u64 (IntKind.u64.wrap (U a * U b))) = _
  rw [wrap_u, BitVec.ofInt_mul, ofInt_U, ofInt_U]
theorem un_neg_u' {a : BitVec 64} : aun .neg (.i .u64 (U a)) = some (.i .u64 (U (-a))) := by
  show some (AV.i .u64 (IntKind.u64.wrap (0 - U a))) = _
  rw [wrap_u]
  congr 3
  apply BitVec.eq_of_toNat_eq
  rw [BitVec.toNat_ofInt, BitVec.toNat_neg]
  unfold U
  have := a.isLt
  omega
theorem bin_and_i {x y : Int} : abin .and (.i .i64 x) (.i .i64 y) = some (.i .i64 (bitop .and .i64 x y)) := rfl
theorem bin_or_i {x y : Int} : abin .or (.i .i64 x) (.i .i64 y) = some (.i .i64 (bitop .or .i64 x y)) := rfl
theorem bin_xor_i {x y : Int} : abin .xor (.i .i64 x) (.i .i64 y) = some (.i .i64 (bitop .xor .i64 x y)) := rfl
theorem bin_neq8 {x y : Int} : abin .neq (.i .u8 x) (.i .u8 y) = some (.b (decide (x ≠ y))) := by
  show some (AV.b (x != y)) = _
  congr 2
  rw [Bool.eq_iff_iff]; simp
theorem bin_s_eql {a b : ByteArray} : abin .eql (.s a) (.s b) = some (.b (a.toList == b.toList)) := rfl
theorem bin_s_neq {a b : ByteArray} : abin .neq (.s a) (.s b) = some (.b (!(a.toList == b.toList))) := rfl
theorem same_i64 : IntKind.same .i64 .i64 = true := rfl
theorem same_u64 : IntKind.same .u64 .u64 = true := rfl
theorem same_u8 : IntKind.same .u8 .u8 = true := rfl
theorem aeqs_i {a b : Int} {bs : List Bool} {xs ys : List AV} : aeqs (false :: bs) (.i .i64 a :: xs) (.i .i64 b :: ys) = match aeqs bs xs ys with | some r => some (decide (a = b) && r) | none => if a = b then none else some false := by
  show (bif IntKind.same .i64 .i64 then (bif a == b then aeqs bs xs ys else some false) else none) = _
  rw [same_i64, cond_true]
  by_cases h : a = b
  · have : (a == b) = true := by simp [h]
    rw [this]; cases aeqs bs xs ys <;> simp [h]
  · have : (a == b) = false := by simp [h]
    rw [this]; cases aeqs bs xs ys <;> simp [h]
theorem aeqs_u {a b : BitVec 64} {bs : List Bool} {xs ys : List AV} : aeqs (false :: bs) (.i .u64 (U a) :: xs) (.i .u64 (U b) :: ys) = match aeqs bs xs ys with | some r => some (decide (a = b) && r) | none => if a = b then none else some false := by
  show (bif IntKind.same .u64 .u64 then (bif U a == U b then aeqs bs xs ys else some false) else none) = _
  rw [same_u64, cond_true]
  by_cases h : a = b
  · subst h
    cases aeqs bs xs ys <;> simp
  · have : (U a == U b) = false := by simp [U_inj, h]
    rw [this]; cases aeqs bs xs ys <;> simp [h]
theorem aeqs_b {a b : Bool} {bs : List Bool} {xs ys : List AV} : aeqs (true :: bs) (.b a :: xs) (.b b :: ys) = match aeqs bs xs ys with | some r => some ((a == b) && r) | none => if a = b then none else some false := by
  show (bif a == b then aeqs bs xs ys else some false) = _
  cases a <;> cases b <;> cases aeqs bs xs ys <;> simp
theorem aeqs_nil : aeqs [] [] [] = some true := rfl
theorem cond_ff {b : Bool} : (bif false then !b else b) = b := rfl

/-! ### What names no block is left as it is -/
mutual
theorem ids_nor {base : Nat} : ∀ {a : AV} {l : List Nat}, a.nor = true → AV.ids base a l = l
  | .b _, _, _ => rfl
  | .i _ _, _, _ => rfl
  | .f _ _, _, _ => rfl
  | .c _ _ _, _, _ => rfl
  | .s _, _, _ => rfl
  | .p none, _, _ => rfl
  | .p (some (_, _)), _, h => by simp [AV.nor] at h
  | .lp _ _, _, h => by simp [AV.nor] at h
  | .sl none _ _, _, _ => rfl
  | .sl (some (_, _)) _ _, _, h => by simp [AV.nor] at h
  | .fn _ x y, l, h => by
    simp only [AV.nor, Bool.and_eq_true] at h
    simp only [AV.ids, idss_nors h.1, idss_nors h.2]
  | .nilfn, _, _ => rfl
  | .nilif, _, _ => rfl
  | .agg cs, l, h => by simp only [AV.nor] at h; simp only [AV.ids, idss_nors h]
  | .tup cs, l, h => by simp only [AV.nor] at h; simp only [AV.ids, idss_nors h]
  | .vs _ _ cs, l, h => by simp only [AV.nor] at h; simp only [AV.ids, idss_nors h]
  | .vp cs, l, h => by simp only [AV.nor] at h; simp only [AV.ids, idss_nors h]
theorem idss_nors {base : Nat} : ∀ {a : List AV} {l : List Nat}, AV.nors a = true → AV.idss base a l = l
  | [], _, _ => rfl
  | x :: xs, l, h => by
    simp only [AV.nors, Bool.and_eq_true] at h
    simp only [AV.idss, ids_nor h.1, idss_nors h.2]
end
mutual
theorem ren_id {base nb : Nat} {l : List Nat} : ∀ {a : AV}, a.nor = true → AV.ren base nb l a = some a
  | .b _, _ => rfl
  | .i _ _, _ => rfl
  | .f _ _, _ => rfl
  | .c _ _ _, _ => rfl
  | .s _, _ => rfl
  | .p none, _ => rfl
  | .p (some (_, _)), h => by simp [AV.nor] at h
  | .lp _ _, h => by simp [AV.nor] at h
  | .sl none _ _, _ => rfl
  | .sl (some (_, _)) _ _, h => by simp [AV.nor] at h
  | .fn _ x y, h => by
    simp only [AV.nor, Bool.and_eq_true] at h
    simp only [AV.ren, rens_id h.1, rens_id h.2]
  | .nilfn, _ => rfl
  | .nilif, _ => rfl
  | .agg cs, h => by simp only [AV.nor] at h; simp only [AV.ren, rens_id h]
  | .tup cs, h => by simp only [AV.nor] at h; simp only [AV.ren, rens_id h]
  | .vs _ _ cs, h => by simp only [AV.nor] at h; simp only [AV.ren, rens_id h]
  | .vp cs, h => by simp only [AV.nor] at h; simp only [AV.ren, rens_id h]
theorem rens_id {base nb : Nat} {l : List Nat} : ∀ {a : List AV}, AV.nors a = true → AV.rens base nb l a = some a
  | [], _ => rfl
  | x :: xs, h => by
    simp only [AV.nors, Bool.and_eq_true] at h
    simp only [AV.rens, ren_id h.1, rens_id h.2]
end
mutual
theorem old_nor {n : Nat} : ∀ {a : AV}, a.nor = true → AV.old n a = true
  | .b _, _ => rfl
  | .i _ _, _ => rfl
  | .f _ _, _ => rfl
  | .c _ _ _, _ => rfl
  | .s _, _ => rfl
  | .p none, _ => rfl
  | .p (some (_, _)), h => by simp [AV.nor] at h
  | .lp _ _, h => by simp [AV.nor] at h
  | .sl none _ _, _ => rfl
  | .sl (some (_, _)) _ _, h => by simp [AV.nor] at h
  | .fn _ x y, h => by
    simp only [AV.nor, Bool.and_eq_true] at h
    simp only [AV.old, olds_nors h.1, olds_nors h.2, Bool.and_self]
  | .nilfn, _ => rfl
  | .nilif, _ => rfl
  | .agg cs, h => by simp only [AV.nor] at h; simp only [AV.old, olds_nors h]
  | .tup cs, h => by simp only [AV.nor] at h; simp only [AV.old, olds_nors h]
  | .vs _ _ cs, h => by simp only [AV.nor] at h; simp only [AV.old, olds_nors h]
  | .vp cs, h => by simp only [AV.nor] at h; simp only [AV.old, olds_nors h]
theorem olds_nors {n : Nat} : ∀ {a : List AV}, AV.nors a = true → AV.olds n a = true
  | [], _ => rfl
  | x :: xs, h => by
    simp only [AV.nors, Bool.and_eq_true] at h
    simp only [AV.olds, old_nor h.1, olds_nors h.2, Bool.and_self]
end
/-- A value of one cell that is no slice that is not frozen. -/
def AV.flat1 : AV → Bool
  | .b _ | .i _ _ | .f _ _ | .c _ _ _ | .s _ => true
  | .vs _ .unk _ => true
  | _ => false
theorem frz_flat1 {base : Nat} {h : AHeap} {f : Nat} {a : AV} (ha : a.flat1 = true) : frz true base h (f + 1) a = some a := by
  cases a <;> simp [AV.flat1] at ha <;> try rfl
  rename_i len cap cs
  cases cap <;> simp [AV.flat1] at ha
  rfl
theorem frzs_flat {base : Nat} {h : AHeap} {f : Nat} : ∀ {l : List AV}, l.all AV.flat1 = true → frzs (frz true base h (f + 1)) l = some l
  | [], _ => rfl
  | x :: xs, ha => by
    simp only [List.all_cons, Bool.and_eq_true] at ha
    simp only [frzs, frz_flat1 ha.1, frzs_flat ha.2]
end Go.Proofs.YtogkkamlmklpkaaDoor.Ab
