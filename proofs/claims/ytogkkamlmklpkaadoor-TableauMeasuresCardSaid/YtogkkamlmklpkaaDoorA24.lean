/- Further rules: lists that were appended to, numbers that are told. No condition: lemmas only. -/
import Derived.Test.YtogkkamlmklpkaaDoorA23
set_option linter.unusedVariables false
set_option linter.unusedSimpArgs false
namespace Go.Proofs.YtogkkamlmklpkaaDoor.Ab
open Go
theorem idss_app {b : Nat} : ∀ {xs ys : List AV} {l : List Nat}, AV.idss b (xs ++ ys) l = AV.idss b ys (AV.idss b xs l)
  | [], _, _ => rfl
  | x :: xs, ys, l => by simp only [List.cons_append, AV.idss]; exact idss_app
theorem rens_app {b c : Nat} {l : List Nat} : ∀ {xs ys : List AV}, AV.rens b c l (xs ++ ys) = match AV.rens b c l xs with
    | some x => match AV.rens b c l ys with
      | some y => some (x ++ y)
      | none => none
    | none => none
  | [], ys => by simp only [List.nil_append, AV.rens]; cases AV.rens b c l ys <;> rfl
  | x :: xs, ys => by
    simp only [List.cons_append, AV.rens, rens_app (xs := xs) (ys := ys)]
    cases AV.ren b c l x with
    | none => rfl
    | some x' =>
      cases AV.rens b c l xs with
      | none => rfl
      | some y => cases AV.rens b c l ys <;> rfl
theorem olds_app {n : Nat} : ∀ {xs ys : List AV}, AV.olds n (xs ++ ys) = (AV.olds n xs && AV.olds n ys)
  | [], _ => rfl
  | x :: xs, ys => by simp only [List.cons_append, AV.olds, olds_app, Bool.and_assoc]
theorem frzs_app {g : AV → Option AV} : ∀ {xs ys : List AV}, frzs g (xs ++ ys) = match frzs g xs with
    | some x => match frzs g ys with
      | some y => some (x ++ y)
      | none => none
    | none => none
  | [], ys => by simp only [List.nil_append, frzs]; cases frzs g ys <;> rfl
  | x :: xs, ys => by
    simp only [List.cons_append, frzs, frzs_app (xs := xs) (ys := ys)]
    cases g x with
    | none => rfl
    | some x' =>
      cases frzs g xs with
      | none => rfl
      | some y => cases frzs g ys <;> rfl
theorem cast0 : ((0 : Nat) : Int) = 0 := rfl
theorem cast1 : ((1 : Nat) : Int) = 1 := rfl
theorem cast2 : ((2 : Nat) : Int) = 2 := rfl
theorem cast3 : ((3 : Nat) : Int) = 3 := rfl
theorem cast4 : ((4 : Nat) : Int) = 4 := rfl
/-- A scalar. -/
def AV.flat2 : AV → Bool
  | .b _ | .i _ _ | .f _ _ | .c _ _ _ | .s _ => true
  | _ => false
theorem frz_flat2 {q : Bool} {base : Nat} {h : AHeap} {f : Nat} {a : AV} (ha : a.flat2 = true) : frz q base h (f + 1) a = some a := by
  cases a <;> simp [AV.flat2] at ha <;> rfl
theorem frzs_flat2 {q : Bool} {base : Nat} {h : AHeap} {f : Nat} : ∀ {l : List AV}, l.all AV.flat2 = true → frzs (frz q base h (f + 1)) l = some l
  | [], _ => rfl
  | x :: xs, ha => by
    simp only [List.all_cons, Bool.and_eq_true] at ha
    simp only [frzs, frz_flat2 ha.1, frzs_flat2 ha.2]
theorem slcOff_op {esz m l o : Nat} : slcOff none .op esz m l o = o + l * esz := rfl
theorem slcOff_unk {esz m l o : Nat} : slcOff none .unk esz m l o = o + l * esz := rfl
theorem bin_rem_u {a b : BitVec 64} : abin .rem (.i .u64 (U a)) (.i .u64 (U b)) = if b = 0#64 then none else some (.i .u64 (U (a % b))) := by
  have e : abin .rem (.i .u64 (U a)) (.i .u64 (U b)) = if U b = 0 then none else some (.i .u64 ((U a).tmod (U b))) := id rfl
  have h0 : U b = 0 ↔ b = 0#64 := ⟨fun h => BitVec.eq_of_toNat_eq (by unfold U at h; simpa using h), fun h => by rw [h]; rfl⟩
  rw [e]
  by_cases h : b = 0#64
  · rw [if_pos (h0.2 h), if_pos h]
  · rw [if_neg (fun q => h (h0.1 q)), if_neg h]
    congr 2
theorem bq_t {b : Bool} : (b == true) = b := by cases b <;> rfl
theorem bq_f {b : Bool} : (b == false) = !b := by cases b <;> rfl
theorem t_bq {b : Bool} : (true == b) = b := by cases b <;> rfl
theorem f_bq {b : Bool} : (false == b) = !b := by cases b <;> rfl
theorem pkn {α : Type} {l : List α} {j : Int} (h : idx l j = none) : idx l j = none ∧ inb j l.length = false := ⟨h, idx_out h⟩
theorem len_facts {α : Type} {y l : List α} (h : y.length = l.length) : y.take l.length = y ∧ (∀ i x, (y.set i x).take l.length = y.set i x) ∧ (y = []) = (l = []) :=
  ⟨List.take_of_length_le (Nat.le_of_eq h), fun i x => List.take_of_length_le (by rw [List.length_set]; exact Nat.le_of_eq h), by rw [← List.length_eq_zero_iff, ← List.length_eq_zero_iff (l := l), h]⟩
def EVN := PLift.up <| And.intro @bq_t <| And.intro @bq_f <| And.intro @t_bq <| And.intro @f_bq <| And.intro @bin_rem_u <| And.intro @slcOff_op <| And.intro @slcOff_unk <| And.intro @List.length_pos_iff.{0} <| And.intro @idss_app <| And.intro @rens_app <| And.intro @olds_app <| And.intro @frzs_app <| And.intro @nors_append <| And.intro @cast0 <| And.intro @cast1 <| And.intro @cast2 <| And.intro @cast3 <| And.intro @cast4 <| And.intro @enc_cons <| And.intro @Nat.le_refl <| And.intro @List.take_length.{0} @List.all_append.{0}
end Go.Proofs.YtogkkamlmklpkaaDoor.Ab
