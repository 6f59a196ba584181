/- Plain law: the reference's product is the program's. No condition: lemmas only. -/
import Derived.Test.YtogkkamlmklpkaaDoorW4
set_option maxRecDepth 100000
set_option linter.unusedVariables false
set_option linter.unusedSimpArgs false
namespace Go.Proofs.YtogkkamlmklpkaaDoor.Ab
open Go
theorem Pl.ok_lt {p : Pl} (h : p.ok = true) : p.X.toNat < 2 ^ p.N.toNat ∧ p.Z.toNat < 2 ^ p.N.toNat := by
  have h0 := Pl.ok_ph h
  unfold Pl.ok at h
  simp only [Bool.and_eq_true, decide_eq_true_eq, Bool.or_eq_true] at h
  obtain ⟨_, h5⟩ := h
  have hx := p.X.isLt
  have hz := p.Z.isLt
  rcases h5 with h5 | h5
  · have e : p.N.toNat = 64 := by omega
    rw [e]; exact ⟨hx, hz⟩
  · have h6 : (p.X ||| p.Z).toNat / 2 ^ p.N.toNat = 0 := by
      rw [← tn_shr, h5]; rfl
    have hp := Nat.two_pow_pos p.N.toNat
    have h7 : (p.X ||| p.Z).toNat < 2 ^ p.N.toNat := by
      rcases Nat.lt_or_ge (p.X ||| p.Z).toNat (2 ^ p.N.toNat) with q | q
      · exact q
      · have := Nat.div_pos q hp; omega
    rw [BitVec.toNat_or] at h7
    exact ⟨Nat.lt_of_le_of_lt Nat.left_le_or h7, Nat.lt_of_le_of_lt Nat.right_le_or h7⟩
theorem R_bitN (x : BitVec 64) (i : Nat) (hi : i < 64) : Pref13_bit x (i : Int) = ((x.toNat / 2 ^ i % 2 : Nat) : Int) := by
  have hk : (BitVec.ofInt 64 (i : Int)).toNat = i := by simp; omega
  unfold Pref13_bit
  rw [hk, bit_nat]
/-- The letter's byte. -/
def letterN (x z : Nat) : Int := if x % 2 = 0 then (if z % 2 = 0 then 73 else 90) else (if z % 2 = 0 then 88 else 89)
theorem R_Letter (F : Nat) (hF : 65 ≤ F) (p : Pl) (hp : p.ok = true) (i : Nat) (hi : (i : Int) < p.N) : Pref13_Letter F p.N p.X p.Z p.Ph (i : Int) = some (letterN (p.X.toNat / 2 ^ i) (p.Z.toNat / 2 ^ i)) := by
  have h0 := Pl.ok_ph hp
  unfold Pref13_Letter letterN
  rw [R_right F hF p, hp]
  simp only [cond_true]
  rw [if_neg (by omega), if_neg (by omega), R_bitN _ _ (by omega), R_bitN _ _ (by omega)]
  have h1 := Nat.mod_two_eq_zero_or_one (p.X.toNat / 2 ^ i)
  have h2 := Nat.mod_two_eq_zero_or_one (p.Z.toNat / 2 ^ i)
  rcases h1 with h1 | h1 <;> rcases h2 with h2 | h2 <;> rw [h1, h2] <;> decide
theorem R_one (a b c d : Nat) : Pref13_one (letterN a b) (letterN c d) = (pw a b c d : Nat) := by
  unfold letterN pw
  have e1 := Nat.mod_two_eq_zero_or_one a
  have e2 := Nat.mod_two_eq_zero_or_one b
  have e3 := Nat.mod_two_eq_zero_or_one c
  have e4 := Nat.mod_two_eq_zero_or_one d
  rcases e1 with e1 | e1 <;> rcases e2 with e2 | e2 <;> rcases e3 with e3 | e3 <;> rcases e4 with e4 | e4 <;> rw [e1, e2, e3, e4] <;> decide
theorem RM0 (F : Nat) (hF : 65 ≤ F) (p q : Pl) (hp : p.ok = true) (hq : q.ok = true) (n : Nat) (hn : p.N = n) (hn2 : q.N = n) (v9 : Int) (v10 v11 : BitVec 64) (v12 v13 : Int) (v14 v15 : BitVec 64) (b : Int) (hb : 0 ≤ b) (hb2 : b ≤ 100) :
    ∀ (f m i : Nat), i + m = n → m < f → Pref13_MulL0 F p.N p.X p.Z p.Ph q.N q.X q.Z q.Ph v9 v10 v11 v12 v13 v14 v15 f (i : Int) (b + (ps i p.X.toNat p.Z.toNat q.X.toNat q.Z.toNat : Nat)) = some (b + (ps n p.X.toNat p.Z.toNat q.X.toNat q.Z.toNat : Nat))
  | 0, m, i, _, h => by omega
  | f + 1, m, i, e, h => by
    have h0 := Pl.ok_ph hp
    unfold Pref13_MulL0
    cases m with
    | zero =>
      rw [if_neg (by omega)]
      obtain rfl : i = n := by omega
      rfl
    | succ m =>
      rw [if_pos (by omega), R_Letter F hF p hp i (by omega), R_Letter F hF q hq i (by omega)]
      simp only [R_one]
      have hl := ps_le p.X.toNat p.Z.toNat q.X.toNat q.Z.toNat i
      have hw := pw_le (p.X.toNat / 2 ^ i) (p.Z.toNat / 2 ^ i) (q.X.toNat / 2 ^ i) (q.Z.toNat / 2 ^ i)
      have ih := RM0 F hF p q hp hq n hn hn2 v9 v10 v11 v12 v13 v14 v15 b hb hb2 f m (i + 1) (by omega) (by omega)
      rw [show ((i + 1 : Nat) : Int) = (i : Int) + 1 by omega, ps_last i, Int.natCast_add, ← Int.add_assoc] at ih
      rw [wrap_id (n := (i : Int) + 1) ⟨by omega, by omega⟩, wrap_id (n := b + _ + _) ⟨by omega, by omega⟩]
      exact ih
theorem R_times (F : Nat) (hF : 66 ≤ F) (p q : Pl) (hp : p.ok = true) (hq : q.ok = true) (hn : p.N = q.N) : Pref14_times F p.N p.X p.Z p.Ph q.N q.X q.Z q.Ph = some ((mulP p q).N, (mulP p q).X, (mulP p q).Z, (mulP p q).Ph) := by
  obtain ⟨p3, p4, p1, p2⟩ := Pl.ok_ph hp
  obtain ⟨_, _, q1, q2⟩ := Pl.ok_ph hq
  obtain ⟨n, e⟩ : ∃ n : Nat, p.N = n := ⟨p.N.toNat, by omega⟩
  have := RM0 F (by omega) p q hp hq n e (by omega) 0 0#64 0#64 0 p.N (p.X ^^^ q.X) (p.Z ^^^ q.Z) (p.Ph + q.Ph) (by omega) (by omega) F n 0 (by omega) (by omega)
  have hlt := Pl.ok_lt hp
  rw [e, Int.toNat_natCast] at hlt
  have ho := ps_over n (64 - n) p.X.toNat p.Z.toNat q.X.toNat q.Z.toNat hlt.1 hlt.2
  rw [show n + (64 - n) = 64 by omega] at ho
  simp only [ps, Int.natCast_zero, Int.add_zero] at this
  unfold Pref14_times Pref13_Mul mulP
  rw [R_right F (by omega) p, R_right F (by omega) q, hp, hq]
  simp only [cond_true]
  rw [if_pos hn, wrap_id (n := p.Ph + q.Ph) ⟨by omega, by omega⟩, this]
  simp only []
  rw [Int.tmod_eq_emod_of_nonneg (by omega), ho]
end Go.Proofs.YtogkkamlmklpkaaDoor.Ab
