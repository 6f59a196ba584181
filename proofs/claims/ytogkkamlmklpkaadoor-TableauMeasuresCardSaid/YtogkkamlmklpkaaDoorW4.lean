/- Plain law: the product of two strings, the program's and the reference's. No condition: lemmas only. -/
import Derived.Test.YtogkkamlmklpkaaDoorW3
set_option maxRecDepth 100000
set_option linter.unusedVariables false
set_option linter.unusedSimpArgs false
namespace Go.Proofs.YtogkkamlmklpkaaDoor.Ab
open Go
/-- Where the table has a power of 2. -/
def slot (i : Nat) : Nat := (((1#64 <<< i) * 285870213051353865#64) >>> 58).toNat
theorem slot_zs : ∀ i : Fin 64, zs64[slot i.val]? = some (i.val : Int) := by decide +kernel
theorem low_word (x : BitVec 64) (i m : Nat) (hx : x.toNat = 2 ^ i * (2 * m + 1)) (hi : i < 64) : x &&& -x = 1#64 <<< i := by
  apply BitVec.eq_of_toNat_eq
  have hl := x.isLt
  have hp : 0 < 2 ^ i * (2 * m + 1) := Nat.mul_pos (Nat.two_pow_pos i) (by omega)
  rw [BitVec.toNat_and, BitVec.toNat_neg, Nat.mod_eq_of_lt (by omega), hx, and_neg i 64 m (by omega), BitVec.toNat_shiftLeft, Nat.shiftLeft_eq]
  have : 2 ^ i < 2 ^ 64 := Nat.pow_lt_pow_right (by omega) hi
  rw [show (1#64).toNat = 1 from rfl, Nat.one_mul, Nat.mod_eq_of_lt this]
theorem P_tz (x : BitVec 64) (i m : Nat) (hx : x.toNat = 2 ^ i * (2 * m + 1)) (hi : i < 64) : Pbits_TrailingZeros64 x = some (i : Int) := by
  have h0 : x ≠ 0#64 := by
    rintro rfl
    have := Nat.mul_pos (Nat.two_pow_pos i) (show 0 < 2 * m + 1 by omega)
    rw [← hx] at this
    simp at this
  have e : idx zs64 (U (((x &&& -x) * 285870213051353865#64) >>> (58 : Nat))) = some (i : Int) := by
    rw [low_word x i m hx hi]
    exact (idx_nat zs64 (slot i)).trans (slot_zs ⟨i, hi⟩)
  unfold Pbits_TrailingZeros64
  rw [if_neg h0, e]
  simp only [wrap_id (n := (i : Int)) ⟨by omega, by omega⟩]
theorem bit_nat (x : BitVec 64) (i : Nat) : ((x >>> i) &&& 1#64).toInt = ((x.toNat / 2 ^ i % 2 : Nat) : Int) := by
  have hn : ((x >>> i) &&& 1#64).toNat = x.toNat / 2 ^ i % 2 := by
    rw [BitVec.toNat_and, tn_shr]
    exact Nat.and_one_is_mod _
  have h2 : x.toNat / 2 ^ i % 2 < 2 := Nat.mod_lt _ (by decide)
  rw [BitVec.toInt_eq_toNat_of_lt (by rw [hn]; omega), hn]
/-- A letter's number: 0, X 1, Y 2, Z 3. -/
def codeN (x z : Nat) : Int := if x % 2 = 0 then (if z % 2 = 0 then 0 else 3) else (if z % 2 = 0 then 1 else 2)
theorem P_code (p : Pl) (i : Nat) : Ppauli_code p.N p.X p.Z p.Ph (i : Int) = some (codeN (p.X.toNat / 2 ^ i) (p.Z.toNat / 2 ^ i)) := by
  unfold Ppauli_code codeN
  rw [if_neg (by omega), Int.toNat_natCast, bit_nat, bit_nat]
  have h1 := Nat.mod_two_eq_zero_or_one (p.X.toNat / 2 ^ i)
  have h2 := Nat.mod_two_eq_zero_or_one (p.Z.toNat / 2 ^ i)
  rcases h1 with h1 | h1 <;> rcases h2 with h2 | h2 <;> rw [h1, h2] <;> decide
/-- One letter's part of the power of i. -/
theorem step_pw (a b c d : Nat) (h1 : a % 2 = 1 ∨ b % 2 = 1) (h2 : c % 2 = 1 ∨ d % 2 = 1) (n : Int) :
    (if (IntKind.i64.wrap (IntKind.i64.wrap (codeN c d - codeN a b) + 3)).tmod 3 = 1 then n + 1
     else if (IntKind.i64.wrap (IntKind.i64.wrap (codeN c d - codeN a b) + 3)).tmod 3 = 2 then n + 3 else n) = n + (pw a b c d : Nat) := by
  unfold codeN pw
  have e1 := Nat.mod_two_eq_zero_or_one a
  have e2 := Nat.mod_two_eq_zero_or_one b
  have e3 := Nat.mod_two_eq_zero_or_one c
  have e4 := Nat.mod_two_eq_zero_or_one d
  have w : ∀ k : Int, -10 ≤ k → k ≤ 10 → IntKind.i64.wrap k = k := fun k _ _ => wrap_id ⟨by omega, by omega⟩
  rcases e1 with e1 | e1 <;> rcases e2 with e2 | e2 <;> rcases e3 with e3 | e3 <;> rcases e4 with e4 | e4 <;> simp [e1, e2, e3, e4] at h1 h2 ⊢ <;> simp [w]
theorem pw_le (a b c d : Nat) : pw a b c d ≤ 3 := by
  unfold pw
  split
  · omega
  · split <;> omega
/-- The program's loop over the letters of both. -/
theorem PT0 (p q r : Pl) : ∀ (f : Nat) (c : Int) (x : BitVec 64), popN x.toNat < f → 0 ≤ c → c + 3 * popN x.toNat < 1000000 →
    (∀ k, x.toNat.testBit k = true → ((p.X.toNat / 2 ^ k % 2 = 1 ∨ p.Z.toNat / 2 ^ k % 2 = 1) ∧ (q.X.toNat / 2 ^ k % 2 = 1 ∨ q.Z.toNat / 2 ^ k % 2 = 1))) →
    Ppauli_timesL0 p.N p.X p.Z p.Ph q.N q.X q.Z q.Ph r.N r.X r.Z r.Ph f c x = some (c + (ss (fun k => pw (p.X.toNat / 2 ^ k) (p.Z.toNat / 2 ^ k) (q.X.toNat / 2 ^ k) (q.Z.toNat / 2 ^ k)) 64 0 x.toNat : Nat))
  | 0, c, x, h, _, _, _ => by omega
  | f + 1, c, x, h, h0, h1, hb => by
    unfold Ppauli_timesL0
    by_cases hx : x = 0#64
    · subst hx
      rw [if_pos rfl]
      simp [ss_zero]
    · rw [if_neg hx]
      have hpos : 0 < x.toNat := by
        rcases Nat.eq_zero_or_pos x.toNat with q | q
        · exact absurd (BitVec.eq_of_toNat_eq (by simpa using q)) hx
        · exact q
      obtain ⟨i, m, hi, hm⟩ := low_bit 64 x.toNat hpos x.isLt
      have e : (x &&& (x - 1#64)).toNat = x.toNat &&& (x.toNat - 1) := by
        rw [BitVec.toNat_and, BitVec.toNat_sub]
        congr 1
        have := x.isLt
        simp only [BitVec.toNat_ofNat, Nat.reducePow, Nat.reduceMod]
        omega
      have e2 : x.toNat &&& (x.toNat - 1) = 2 ^ (i + 1) * m := by rw [hm, and_pred]
      have ps := pop_step x.toNat hpos
      have hti : x.toNat.testBit i = true := by
        rw [hm, Nat.testBit_eq_decide_div_mod_eq, Nat.mul_div_cancel_left _ (Nat.two_pow_pos i)]
        simp
      obtain ⟨b1, b2⟩ := hb i hti
      have hs := step_pw _ _ _ _ b1 b2 c
      have hl := pw_le (p.X.toNat / 2 ^ i) (p.Z.toNat / 2 ^ i) (q.X.toNat / 2 ^ i) (q.Z.toNat / 2 ^ i)
      have ih := fun c' (g0 : 0 ≤ c') (g1 : c' ≤ c + 3) => PT0 p q r f c' (x &&& (x - 1#64)) (by rw [e]; omega) g0 (by rw [e]; omega) (fun k hk => hb k (by
        rw [e, Nat.testBit_and, Bool.and_eq_true] at hk; exact hk.1))
      rw [P_tz x i m hm hi]
      simp only [P_code, wrap_id (n := c + 1) ⟨by omega, by omega⟩, wrap_id (n := c + 3) ⟨by omega, by omega⟩]
      have key : ∀ t : Int, ∀ P1 P2 : Prop, ∀ [Decidable P1] [Decidable P2], (if P1 then c + 1 else if P2 then c + 3 else c) = t → ∀ R : Option Int, (∀ c', c' = t → Ppauli_timesL0 p.N p.X p.Z p.Ph q.N q.X q.Z q.Ph r.N r.X r.Z r.Ph f c' (x &&& (x - 1#64)) = R) →
          (if P1 then Ppauli_timesL0 p.N p.X p.Z p.Ph q.N q.X q.Z q.Ph r.N r.X r.Z r.Ph f (c + 1) (x &&& (x - 1#64)) else if P2 then Ppauli_timesL0 p.N p.X p.Z p.Ph q.N q.X q.Z q.Ph r.N r.X r.Z r.Ph f (c + 3) (x &&& (x - 1#64)) else Ppauli_timesL0 p.N p.X p.Z p.Ph q.N q.X q.Z q.Ph r.N r.X r.Z r.Ph f c (x &&& (x - 1#64))) = R := by
        intro t P1 P2 _ _ ht R hR
        by_cases q1 : P1
        · rw [if_pos q1] at ht ⊢; exact hR _ ht
        · rw [if_neg q1] at ht ⊢
          by_cases q2 : P2
          · rw [if_pos q2] at ht ⊢; exact hR _ ht
          · rw [if_neg q2] at ht ⊢; exact hR _ ht
      refine key _ _ _ hs _ (fun c' hc => ?_)
      rw [ih c' (by omega) (by omega), e, e2, hc]
      have hsl := ss_low (fun k => pw (p.X.toNat / 2 ^ k) (p.Z.toNat / 2 ^ k) (q.X.toNat / 2 ^ k) (q.Z.toNat / 2 ^ k)) 64 0 i m hi
      rw [← hm, Nat.zero_add] at hsl
      rw [hsl, Int.natCast_add, ← Int.add_assoc]
/-- The product. -/
def mulP (p q : Pl) : Pl := ⟨p.N, p.X ^^^ q.X, p.Z ^^^ q.Z, (p.Ph + q.Ph + (ps 64 p.X.toNat p.Z.toNat q.X.toNat q.Z.toNat : Nat)) % 4⟩
theorem both_bits (a b c d k : Nat) (h : ((a ||| b) &&& (c ||| d)).testBit k = true) : (a / 2 ^ k % 2 = 1 ∨ b / 2 ^ k % 2 = 1) ∧ (c / 2 ^ k % 2 = 1 ∨ d / 2 ^ k % 2 = 1) := by
  rw [Nat.testBit_and, Nat.testBit_or, Nat.testBit_or] at h
  simp only [Nat.testBit_eq_decide_div_mod_eq, Bool.and_eq_true, Bool.or_eq_true, decide_eq_true_eq] at h
  exact h
theorem ps_le (a b c d : Nat) : ∀ k, ps k a b c d ≤ 3 * k := by
  intro k
  induction k generalizing a b c d with
  | zero => simp [ps]
  | succ k ih =>
    have := ih (a / 2) (b / 2) (c / 2) (d / 2)
    have := pw_le a b c d
    simp only [ps]; omega
theorem P_times (F : Nat) (hF : 65 ≤ F) (p q : Pl) (hp : p.ok = true) (hq : q.ok = true) : Ppauli_times F p.N p.X p.Z p.Ph q.N q.X q.Z q.Ph = some ((mulP p q).N, (mulP p q).X, (mulP p q).Z, (mulP p q).Ph) := by
  obtain ⟨_, _, p1, p2⟩ := Pl.ok_ph hp
  obtain ⟨_, _, q1, q2⟩ := Pl.ok_ph hq
  unfold Ppauli_times mulP
  have hl := popN_64 ((p.X ||| p.Z) &&& (q.X ||| q.Z))
  have := PT0 p q ⟨0, 0#64, 0#64, 0⟩ F (p.Ph + q.Ph) ((p.X ||| p.Z) &&& (q.X ||| q.Z)) (by omega) (by omega) (by omega) (fun k hk => both_bits _ _ _ _ _ (by
    rw [BitVec.toNat_and, BitVec.toNat_or, BitVec.toNat_or] at hk; exact hk))
  rw [wrap_id ⟨by omega, by omega⟩, this]
  have e := ps_ss p.X.toNat p.Z.toNat q.X.toNat q.Z.toNat 64 0
  simp only [Nat.pow_zero, Nat.div_one] at e
  rw [BitVec.toNat_and, BitVec.toNat_or, BitVec.toNat_or, ← e]
  simp only []
  rw [Int.tmod_eq_emod_of_nonneg (by omega)]
theorem P_pair (p q : Pl) : Ppauli_pair p.N p.X p.Z p.Ph q.N q.X q.Z q.Ph = (p.ok && (q.ok && decide (p.N = q.N))) := by
  unfold Ppauli_pair
  rw [P_right, P_right]
  cases p.ok <;> cases q.ok <;> rfl
theorem P_mul (F : Nat) (hF : 65 ≤ F) (p q : Pl) (hp : p.ok = true) (hq : q.ok = true) (hn : p.N = q.N) : Ptableau_mul F p.N p.X p.Z p.Ph q.N q.X q.Z q.Ph = some ((mulP p q).N, (mulP p q).X, (mulP p q).Z, (mulP p q).Ph) := by
  unfold Ptableau_mul Ppauli_Mul
  rw [P_pair, hp, hq, decide_eq_true hn, P_times F hF p q hp hq]
  rfl
end Go.Proofs.YtogkkamlmklpkaaDoor.Ab
