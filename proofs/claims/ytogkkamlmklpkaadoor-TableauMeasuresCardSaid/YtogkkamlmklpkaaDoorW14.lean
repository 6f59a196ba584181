/- Plain law: what a measurement may give (Odds) and what comes of it (Project), the program's and the reference's. No condition: lemmas only. -/
import Derived.Test.YtogkkamlmklpkaaDoorW13
set_option maxRecDepth 100000
set_option linter.unusedVariables false
set_option linter.unusedSimpArgs false
namespace Go.Proofs.YtogkkamlmklpkaaDoor.Ab
open Go
/-- Z at a qubit, its phase for a value. -/
def zq (N : Int) (q : Nat) (v : Int) : Pl := ⟨N, 0#64, 1#64 <<< q, v⟩
theorem tn_bit {q : Nat} (h : q < 64) : (1#64 <<< q).toNat = 2 ^ q := by
  rw [BitVec.toNat_shiftLeft, Nat.shiftLeft_eq, show (1#64).toNat = 1 from rfl, Nat.one_mul, Nat.mod_eq_of_lt (Nat.pow_lt_pow_right (by omega) h)]
theorem popN_bit : ∀ (q : Nat) (b : Bool), popN (b.toNat * 2 ^ q) = b.toNat
  | 0, b => by cases b <;> simp [popN]
  | q + 1, b => by
    rw [popN_eq]
    have e1 : b.toNat * 2 ^ (q + 1) % 2 = 0 := by rw [Nat.pow_succ, ← Nat.mul_assoc]; exact Nat.mul_mod_left ..
    have e2 : b.toNat * 2 ^ (q + 1) / 2 = b.toNat * 2 ^ q := by rw [Nat.pow_succ, ← Nat.mul_assoc]; exact Nat.mul_div_cancel _ (by omega)
    rw [e1, e2, popN_bit q b, Nat.zero_add]
theorem and_bit (x q : Nat) : x &&& 2 ^ q = (x.testBit q).toNat * 2 ^ q := by
  apply Nat.eq_of_testBit_eq
  intro i
  rw [Nat.testBit_and, Nat.testBit_two_pow]
  cases h : x.testBit q with
  | false =>
    rw [show (false : Bool).toNat * 2 ^ q = 0 by simp, Nat.zero_testBit]
    by_cases e : q = i
    · subst e; rw [h]; rfl
    · rw [decide_eq_false e, Bool.and_false]
  | true =>
    rw [show (true : Bool).toNat * 2 ^ q = 2 ^ q by simp, Nat.testBit_two_pow]
    by_cases e : q = i
    · subst e; rw [h]; rfl
    · rw [decide_eq_false e, Bool.and_false]
theorem bit_dec (x : BitVec 64) (q : Nat) : decide (((x >>> q) &&& 1#64) = 1#64) = x.toNat.testBit q := by
  have h1 : ((x >>> q) &&& 1#64).toNat = x.toNat / 2 ^ q % 2 := by
    rw [BitVec.toNat_and, tn_shr]
    exact Nat.and_one_is_mod _
  rw [Nat.testBit_eq_decide_div_mod_eq]
  apply decide_eq_decide.2
  constructor
  · intro h; rw [h] at h1; exact h1.symm
  · intro h; exact BitVec.eq_of_toNat_eq (by rw [h1, h]; rfl)
theorem part_zq {N : Int} {q : Nat} {v : Int} (hq : q < 64) (p : Pl) : part p (zq N q v) = decide (((p.X >>> q) &&& 1#64) = 1#64) := by
  rw [bit_dec]
  unfold part zq om
  simp only []
  rw [tn_bit hq, show (0#64).toNat = 0 from rfl, Nat.and_zero, Nat.xor_zero, and_bit, popN_bit]
  cases p.X.toNat.testBit q <;> rfl
theorem zq_one {N : Int} {n q : Nat} {v : Int} (hN : N = n) (hn : n ≤ 64) (hq : q < n) (hv : v = 0 ∨ v = 2) : one N (zq N q v) = true := by
  have : (2 : Nat) ^ q < 2 ^ n := Nat.pow_lt_pow_right (by omega) hq
  refine one_iff.2 ⟨rfl, ok_iff.2 ⟨?_, ?_, ?_, ?_, ?_, ?_⟩, ?_⟩ <;> simp only [zq]
  · omega
  · omega
  · omega
  · omega
  · exact Nat.two_pow_pos _
  · rw [tn_bit (by omega), hN, Int.toNat_natCast]; exact this
  · omega
theorem firstPart_congr {S : List Pl} {z z' : Pl} (h : ∀ s, part s z = part s z') : ∀ {m i : Nat}, firstPart S z m i = firstPart S z' m i
  | 0, _ => rfl
  | m + 1, i => by
    rw [firstPart, firstPart, firstPart_congr h]
    cases S[i]? with
    | none => rfl
    | some s => simp only [h s]
theorem walkS_congr {S D : List Pl} {z z' : Pl} (h : ∀ s, part s z = part s z') : ∀ {m i : Nat} {a : Pl}, walkS S D z m i a = walkS S D z' m i a
  | 0, _, _ => rfl
  | m + 1, i, a => by
    rw [walkS, walkS, walkS_congr h]
    congr 1
    unfold stepS
    split
    · simp only [h]
    · rfl
theorem part_zv (N : Int) (q : Nat) (v : Int) (s : Pl) : part s (zq N q v) = part s (zq N q 0) := rfl
theorem walk_even {N : Int} {S D : List Pl} {n : Nat} (t : Tab N S D n) (z : Pl) : ∀ (m i : Nat) (a : Pl), i + m ≤ n → a.ok = true → a.N = N → a.Ph % 2 = 0 → (∀ j (h : j < S.length), part S[j] a = false) → (walkS S D z m i a).Ph % 2 = 0 ∧ (walkS S D z m i a).ok = true ∧ (walkS S D z m i a).N = N
  | 0, i, a, _, h1, h2, h3, _ => ⟨h3, h1, h2⟩
  | m + 1, i, a, e, h1, h2, h3, h4 => by
    have hs := t.ls
    have hd := t.ld
    have i1 : i < S.length := by omega
    have i2 : i < D.length := by omega
    have hk := stepS_ok t (z := z) (a := a) (i := i) (by omega) h1 h2
    rw [walkS]
    refine walk_even t z m (i + 1) _ (by omega) hk.1 hk.2 ?_ ?_
    · rw [stepS_at i1 i2]
      cases part D[i] z with
      | false => exact h3
      | true =>
        obtain ⟨_, o2, o3⟩ := one_iff.1 (t.oS i i1)
        exact mul_even h1 o2 h3 o3 (by rw [part_vec, omv_comm, ← part_vec]; exact h4 i i1)
    · intro j hj
      rw [stepS_at i1 i2]
      cases part D[i] z with
      | false => exact h4 j hj
      | true => rw [cond_true, part_mul, h4 j hj, t.ss j i hj i1]; rfl
theorem walk_even0 {N : Int} {S D : List Pl} {n : Nat} (t : Tab N S D n) (z : Pl) : (walkS S D z n 0 (unit N)).Ph % 2 = 0 ∧ (walkS S D z n 0 (unit N)).ok = true ∧ (walkS S D z n 0 (unit N)).N = N := by
  obtain ⟨u1, u2⟩ := unit_ok t
  exact walk_even t z n 0 (unit N) (by omega) u1 u2 rfl (fun j hj => part_unit _ _)
/-- What a measurement may give. -/
def odds (N : Int) (S D : List Pl) (q n : Nat) : Int := match firstPart S (zq N q 0) n 0 with
  | some _ => 2
  | none => if (walkS S D (zq N q 0) n 0 (unit N)).Ph = 0 then 0 else 1
theorem PO0 {N : Int} {S D : List Pl} {n : Nat} (t : Tab N S D n) (q : Nat) (hq : q < 64) : ∀ (f m i : Nat), i + m = n → m < f →
    Ptableau_openL0 S (q : Int) (n : Int) f (i : Int) = some (match firstPart S (zq N q 0) m i with | some j => .inl (j : Int) | none => .inr ())
  | 0, m, i, _, h => by omega
  | f + 1, m, i, e, h => by
    have hle := t.le
    unfold Ptableau_openL0
    cases m with
    | zero => rw [if_neg (by omega)]; rfl
    | succ m =>
      have i1 : i < S.length := by rw [t.ls]; omega
      have ih := PO0 t q hq f m (i + 1) (by omega) (by omega)
      rw [show ((i + 1 : Nat) : Int) = (i : Int) + 1 by omega] at ih
      rw [if_pos (by omega), idx_lt i1]
      simp only [Int.toNat_natCast, wrap_id (n := (i : Int) + 1) ⟨by omega, by omega⟩]
      rw [if_neg (by omega), firstPart_at i1, part_zq hq]
      by_cases hb : ((S[i].X >>> q) &&& 1#64) = 1#64
      · rw [if_pos hb, decide_eq_true hb]; rfl
      · rw [if_neg hb, decide_eq_false hb]; exact ih
theorem P_open (F : Nat) (hF : 66 ≤ F) {N : Int} {S D : List Pl} {n : Nat} (t : Tab N S D n) (q : Nat) (hq : q < 64) : Ptableau_open F N S D (q : Int) = some (match firstPart S (zq N q 0) n 0 with | some j => (j : Int) | none => -1) := by
  have hle := t.le
  have := PO0 t q hq F n 0 (by omega) (by omega)
  rw [show ((0 : Nat) : Int) = 0 from rfl] at this
  unfold Ptableau_open
  rw [show ((S.length : Nat) : Int) = n by rw [t.ls], this]
  cases firstPart S (zq N q 0) n 0 <;> rfl
theorem P_asked (F : Nat) (hF : 66 ≤ F) (N : Int) (S D : List Pl) (q : Int) : Ptableau_asked F N S D q = some (if chk N S D = true then (if q < 0 then 2 else if q ≥ N then 2 else 0) else 140) := by
  unfold Ptableau_asked
  rw [P_Check F hF]
  cases chk N S D with
  | false => rfl
  | true =>
    simp only [if_true]
    by_cases h1 : q < 0
    · rw [if_pos h1, if_pos h1]
    · rw [if_neg h1, if_neg h1]
      by_cases h2 : q ≥ N
      · rw [if_pos h2, if_pos h2]
      · rw [if_neg h2, if_neg h2]
/-- Odds, of any tableau. -/
def oddsA (N : Int) (S D : List Pl) (q : Int) : Int × Int := if chk N S D = true then (if q < 0 then (0, 2) else if q ≥ N then (0, 2) else (odds N S D q.toNat S.length, 0)) else (0, 140)
theorem P_Odds (F : Nat) (hF : 66 ≤ F) (N : Int) (S D : List Pl) (q : Int) : Ptableau_Odds F N S D q = some (oddsA N S D q) := by
  unfold Ptableau_Odds oddsA
  rw [P_asked F hF]
  cases hc : chk N S D with
  | false => rfl
  | true =>
    obtain ⟨n, t⟩ := chk_tab hc
    have hN := t.eN
    have hle := t.le
    simp only [if_true]
    by_cases h1 : q < 0
    · simp only [if_pos h1]; rfl
    · by_cases h2 : q ≥ N
      · simp only [if_neg h1, if_pos h2]; rfl
      · simp only [if_neg h1, if_neg h2, if_true]
        obtain ⟨k, rfl⟩ : ∃ k : Nat, q = (k : Int) := ⟨q.toNat, by omega⟩
        rw [P_open F hF t k (by omega), Int.toNat_natCast, t.ls]
        have ps := P_sure F (by omega : 65 ≤ F) t (zq N k 0)
        unfold odds
        cases e : firstPart S (zq N k 0) n 0 with
        | some j => simp only []; rw [if_pos (by omega)]
        | none =>
          simp only []
          rw [if_neg (by omega)]
          have ps' : Ptableau_sure F N S D N 0#64 (1#64 <<< k) 0 = _ := ps
          rw [ps']
          obtain ⟨w1, w2, _⟩ := walk_even0 t (zq N k 0)
          obtain ⟨_, _, w3, w4, _, _⟩ := ok_iff.1 w2
          simp only []
          generalize (walkS S D (zq N k 0) n 0 (unit N)).Ph = ph at *
          have : ph = 0 ∨ ph = 2 := by omega
          rcases this with rfl | rfl <;> rfl
theorem R_letter (N : Int) (q : Nat) (hq : q < 64) : Pref14_letter N (q : Int) false = (N, 0#64, 1#64 <<< q, 0) := by
  unfold Pref14_letter
  have : (BitVec.ofInt 64 (q : Int)).toNat = q := by rw [BitVec.ofInt_natCast, BitVec.toNat_ofNat, Nat.mod_eq_of_lt (by omega)]
  rw [this]; rfl
theorem R_Odds (F : Nat) (hF : 66 ≤ F) (N : Int) (S D : List Pl) (q : Int) : Pref14_Odds F N S D q = some (oddsA N S D q) := by
  unfold Pref14_Odds oddsA
  rw [R_Right F hF]
  cases hc : chk N S D with
  | false => rfl
  | true =>
    obtain ⟨n, t⟩ := chk_tab hc
    have hN := t.eN
    have hle := t.le
    simp only [if_true, cond_true]
    by_cases h1 : q < 0
    · rw [if_pos h1, if_pos h1]
    · by_cases h2 : q ≥ N
      · rw [if_neg h1, if_pos h2, if_neg h1, if_pos h2]
      · rw [if_neg h1, if_neg h2, if_neg h1, if_neg h2]
        obtain ⟨k, rfl⟩ : ∃ k : Nat, q = (k : Int) := ⟨q.toNat, by omega⟩
        rw [R_letter N k (by omega), Int.toNat_natCast, t.ls]
        have l1 : Pref14_loose F N S D N 0#64 (1#64 <<< k) 0 = _ := R_loose F hF t (zq N k 0)
        have l2 : Pref14_sign F N S D N 0#64 (1#64 <<< k) 0 = _ := R_sign F hF t (zq N k 0)
        simp only [l1, l2]
        unfold odds
        cases e : firstPart S (zq N k 0) n 0 with
        | some j => simp only []; rw [if_pos (by omega)]
        | none =>
          simp only []
          rw [if_neg (by omega)]
          by_cases hp : (walkS S D (zq N k 0) n 0 (unit N)).Ph = 0
          · rw [if_pos hp, if_pos (show _ = (zq N k 0).Ph from hp), if_neg (by omega)]
          · rw [if_neg hp, if_neg (show ¬ _ = (zq N k 0).Ph from hp), if_pos (by omega)]
/-- Project. -/
def proj (N : Int) (S D : List Pl) (q n : Nat) (v : Int) : Int × List Pl × List Pl × Int :=
  if odds N S D q n = 1 - v then (0, [], [], 142)
  else match firstPart S (zq N q 0) n 0 with
    | none => (N, S, D, 0)
    | some p => (N, putS S (zq N q (2 * v)) n p, putD S D (zq N q (2 * v)) n p, 0)
def projA (N : Int) (S D : List Pl) (q v : Int) : Int × List Pl × List Pl × Int :=
  if chk N S D = true then (if q < 0 then (0, [], [], 2) else if q ≥ N then (0, [], [], 2) else if v = 0 ∨ v = 1 then proj N S D q.toNat S.length v else (0, [], [], 2)) else (0, [], [], 140)
theorem odds_cases {N : Int} {S D : List Pl} {q n : Nat} : (odds N S D q n = 2 ∧ ∃ p, firstPart S (zq N q 0) n 0 = some p) ∨ ((odds N S D q n = 0 ∨ odds N S D q n = 1) ∧ firstPart S (zq N q 0) n 0 = none) := by
  unfold odds
  cases firstPart S (zq N q 0) n 0 with
  | some p => exact .inl ⟨rfl, p, rfl⟩
  | none =>
    refine .inr ⟨?_, rfl⟩
    simp only []
    split
    · exact .inl rfl
    · exact .inr rfl
theorem P_Project (F : Nat) (hF : 66 ≤ F) (N : Int) (S D : List Pl) (q v : Int) : Ptableau_Project F N S D q v = some (projA N S D q v) := by
  unfold Ptableau_Project projA
  rw [P_Odds F hF]
  unfold oddsA
  cases hc : chk N S D with
  | false => rfl
  | true =>
    obtain ⟨n, t⟩ := chk_tab hc
    have hN := t.eN
    have hle := t.le
    have hs := t.ls
    have hd := t.ld
    simp only [if_true]
    by_cases h1 : q < 0
    · rw [if_pos h1, if_pos h1]; rfl
    · by_cases h2 : q ≥ N
      · rw [if_neg h1, if_pos h2, if_neg h1, if_pos h2]; rfl
      · rw [if_neg h1, if_neg h2, if_neg h1, if_neg h2]
        obtain ⟨k, rfl⟩ : ∃ k : Nat, q = (k : Int) := ⟨q.toNat, by omega⟩
        rw [Int.toNat_natCast, hs]
        simp only [if_true]
        have op := P_open F hF t k (by omega)
        have cp := P_copied (N := N) (S := S) (D := D) (by omega) (by omega)
        have rp : ∀ (p : Nat) (hp : p < n) (w : Int), Ptableau_replaced F N S D p N 0#64 (1#64 <<< k) w = some (N, putS S (zq N k w) n p, putD S D (zq N k w) n p) := fun p hp w => P_replaced F hF t (zq N k w) p hp
        have key : ∀ w : Int, w = 0 ∨ w = 1 → (if odds N S D k n = IntKind.i64.wrap (1 - w) then some ((0 : Int), ([] : List Pl), ([] : List Pl), (142 : Int))
            else if odds N S D k n = w then match Ptableau_copied N S D with
              | none => none
              | some (r3, r4, r5) => some (r3, r4, r5, (0 : Int))
            else match Ptableau_open F N S D (k : Int) with
              | none => none
              | some r6 => (if (k : Int) < (0 : Int) then none
                else match Ptableau_replaced F N S D r6 N 0#64 (1#64 <<< (k : Int).toNat) (IntKind.i64.wrap ((2 : Int) * w)) with
                | none => none
                | some (r7, r8, r9) => some (r7, r8, r9, (0 : Int)))) = some (proj N S D k n w) := fun w hw => by
          rw [wrap_id (n := 1 - w) ⟨by omega, by omega⟩, wrap_id (n := 2 * w) ⟨by omega, by omega⟩, Int.toNat_natCast]
          unfold proj
          by_cases g1 : odds N S D k n = 1 - w
          · rw [if_pos g1, if_pos g1]
          · rw [if_neg g1, if_neg g1, op, cp]
            rcases odds_cases (N := N) (S := S) (D := D) (q := k) (n := n) with ⟨o1, p, o2⟩ | ⟨o1, o2⟩
            · rw [o2]
              obtain ⟨_, hp, _⟩ := firstPart_some o2
              rw [if_neg (by omega)]
              simp only []
              rw [if_neg (by omega), rp p (by omega)]
            · rw [o2, if_pos (by omega)]
        by_cases e0 : v = 0
        · subst e0
          rw [if_pos (rfl : (0 : Int) = 0), if_pos (show (0 : Int) = 0 ∨ (0 : Int) = 1 from .inl rfl)]
          exact key 0 (.inl rfl)
        · rw [if_neg e0]
          by_cases e1 : v = 1
          · subst e1
            rw [if_pos (rfl : (1 : Int) = 1), if_pos (show (1 : Int) = 0 ∨ (1 : Int) = 1 from .inr rfl)]
            exact key 1 (.inr rfl)
          · rw [if_neg e1, if_neg (by omega)]
end Go.Proofs.YtogkkamlmklpkaaDoor.Ab
