/- Plain Lean: the power of i in a product of strings. -/
import Derived.Test.YtogkkamlmklpkaaDoorSy
set_option linter.unusedVariables false
set_option linter.unusedSimpArgs false
namespace Go.Proofs.YtogkkamlmklpkaaDoor.Ab
/-- The power of i that comes of two letters at one qubit. -/
def pw (a b c d : Nat) : Nat :=
  if a % 2 = 0 ∧ b % 2 = 0 ∨ c % 2 = 0 ∧ d % 2 = 0 ∨ a % 2 = c % 2 ∧ b % 2 = d % 2 then 0
  else if a % 2 = 1 ∧ b % 2 = 0 ∧ c % 2 = 1 ∧ d % 2 = 1 ∨ a % 2 = 1 ∧ b % 2 = 1 ∧ c % 2 = 0 ∧ d % 2 = 1 ∨ a % 2 = 0 ∧ b % 2 = 1 ∧ c % 2 = 1 ∧ d % 2 = 0 then 1 else 3
/-- Of the first k qubits. -/
def ps : Nat → Nat → Nat → Nat → Nat → Nat
  | 0, _, _, _, _ => 0
  | k + 1, a, b, c, d => pw a b c d + ps k (a / 2) (b / 2) (c / 2) (d / 2)
theorem pw_turn (a b c d : Nat) : (pw a b c d + pw c d a b) % 4 = 0 := by
  have h1 := Nat.mod_two_eq_zero_or_one a
  have h2 := Nat.mod_two_eq_zero_or_one b
  have h3 := Nat.mod_two_eq_zero_or_one c
  have h4 := Nat.mod_two_eq_zero_or_one d
  rcases h1 with h1 | h1 <;> rcases h2 with h2 | h2 <;> rcases h3 with h3 | h3 <;> rcases h4 with h4 | h4 <;> simp [pw, h1, h2, h3, h4]
theorem ps_turn : ∀ (k a b c d : Nat), (ps k a b c d + ps k c d a b) % 4 = 0
  | 0, _, _, _, _ => rfl
  | k + 1, a, b, c, d => by
    have h1 := pw_turn a b c d
    have h2 := ps_turn k (a / 2) (b / 2) (c / 2) (d / 2)
    simp only [ps]
    omega
theorem omw_mod (a b c d : Nat) : ((a &&& d) ^^^ (b &&& c)) % 2 = pw a b c d % 2 := by
  have e := Nat.testBit_xor (a &&& d) (b &&& c) 0
  rw [Nat.testBit_and, Nat.testBit_and] at e
  simp only [Nat.testBit_zero] at e
  have h1 := Nat.mod_two_eq_zero_or_one a
  have h2 := Nat.mod_two_eq_zero_or_one b
  have h3 := Nat.mod_two_eq_zero_or_one c
  have h4 := Nat.mod_two_eq_zero_or_one d
  have h5 := Nat.mod_two_eq_zero_or_one ((a &&& d) ^^^ (b &&& c))
  rcases h1 with h1 | h1 <;> rcases h2 with h2 | h2 <;> rcases h3 with h3 | h3 <;> rcases h4 with h4 | h4 <;> rcases h5 with h5 | h5 <;> simp [pw, h1, h2, h3, h4, h5] at e ⊢
theorem omw_div (a b c d : Nat) : ((a &&& d) ^^^ (b &&& c)) / 2 = ((a / 2) &&& (d / 2)) ^^^ ((b / 2) &&& (c / 2)) := by
  rw [Nat.xor_div_two, Nat.and_div_two, Nat.and_div_two]
/-- Odd, where the strings part. -/
theorem ps_odd : ∀ (k a b c d : Nat), a < 2 ^ k → b < 2 ^ k → c < 2 ^ k → d < 2 ^ k → ps k a b c d % 2 = popN ((a &&& d) ^^^ (b &&& c)) % 2
  | 0, a, b, c, d, h1, h2, h3, h4 => by
    have : a = 0 := by simpa using h1
    have : b = 0 := by simpa using h2
    subst a b
    simp [ps, popN]
  | k + 1, a, b, c, d, h1, h2, h3, h4 => by
    rw [Nat.pow_succ] at h1 h2 h3 h4
    have ih := ps_odd k (a / 2) (b / 2) (c / 2) (d / 2) (by omega) (by omega) (by omega) (by omega)
    have hm := omw_mod a b c d
    simp only [ps]
    rw [popN_eq, omw_div]
    omega
theorem pw_zero (a b c d : Nat) (h : a % 2 = 0 ∧ b % 2 = 0 ∨ c % 2 = 0 ∧ d % 2 = 0) : pw a b c d = 0 := by
  unfold pw
  rw [if_pos]
  rcases h with h | h
  · exact .inl h
  · exact .inr (.inl h)
/-- Nothing comes of qubits behind the strings' ends. -/
theorem ps_over : ∀ (k j a b c d : Nat), a < 2 ^ k → b < 2 ^ k → ps (k + j) a b c d = ps k a b c d
  | 0, 0, _, _, _, _, _, _ => rfl
  | 0, j + 1, a, b, c, d, h1, h2 => by
    have : a = 0 := by simpa using h1
    have : b = 0 := by simpa using h2
    subst a b
    have := ps_over 0 j 0 0 (c / 2) (d / 2) (by simp) (by simp)
    rw [show 0 + (j + 1) = (0 + j) + 1 from rfl]
    simp only [ps] at this ⊢
    rw [pw_zero 0 0 c d (.inl ⟨rfl, rfl⟩)]
    simpa using this
  | k + 1, j, a, b, c, d, h1, h2 => by
    rw [Nat.pow_succ] at h1 h2
    rw [show k + 1 + j = (k + j) + 1 from by omega]
    simp only [ps]
    rw [ps_over k j (a / 2) (b / 2) (c / 2) (d / 2) (by omega) (by omega)]
/-- One qubit more. -/
theorem ps_last : ∀ (k a b c d : Nat), ps (k + 1) a b c d = ps k a b c d + pw (a / 2 ^ k) (b / 2 ^ k) (c / 2 ^ k) (d / 2 ^ k)
  | 0, a, b, c, d => by simp [ps]
  | k + 1, a, b, c, d => by
    have h := ps_last k (a / 2) (b / 2) (c / 2) (d / 2)
    have e : ∀ x : Nat, x / 2 / 2 ^ k = x / 2 ^ (k + 1) := fun x => by rw [Nat.div_div_eq_div_mul, Nat.pow_succ, Nat.mul_comm]
    rw [ps, h, ps, e, e, e, e]
    omega
/-- The sum over a word's bits, from bit q on. -/
def ss (g : Nat → Nat) : Nat → Nat → Nat → Nat
  | 0, _, _ => 0
  | k + 1, q, x => (if x % 2 = 1 then g q else 0) + ss g k (q + 1) (x / 2)
theorem low_bit : ∀ (k x : Nat), 0 < x → x < 2 ^ k → ∃ i m, i < k ∧ x = 2 ^ i * (2 * m + 1)
  | 0, x, h1, h2 => by simp at h2; omega
  | k + 1, x, h1, h2 => by
    rw [Nat.pow_succ] at h2
    by_cases h : x % 2 = 1
    · exact ⟨0, x / 2, by omega, by omega⟩
    · obtain ⟨i, m, hi, e⟩ := low_bit k (x / 2) (by omega) (by omega)
      refine ⟨i + 1, m, by omega, ?_⟩
      rw [Nat.pow_succ, Nat.mul_right_comm, ← e]
      omega
theorem ss_low (g : Nat → Nat) : ∀ (k q i m : Nat), i < k → ss g k q (2 ^ i * (2 * m + 1)) = g (q + i) + ss g k q (2 ^ (i + 1) * m)
  | 0, _, _, _, h => absurd h (by omega)
  | k + 1, q, 0, m, h => by
    simp only [ss]
    rw [if_pos (by omega), if_neg (by omega)]
    rw [show 2 ^ 0 * (2 * m + 1) / 2 = m from by omega, show 2 ^ (0 + 1) * m / 2 = m from by omega, show g (q + 0) = g q from rfl]
    omega
  | k + 1, q, i + 1, m, h => by
    have ih := ss_low g k (q + 1) i m (by omega)
    have e1 : 2 ^ (i + 1) * (2 * m + 1) = 2 * (2 ^ i * (2 * m + 1)) := by rw [Nat.pow_succ, Nat.mul_comm (2 ^ i) 2, Nat.mul_assoc]
    have e2 : 2 ^ (i + 1 + 1) * m = 2 * (2 ^ (i + 1) * m) := by rw [Nat.pow_succ, Nat.mul_comm (2 ^ (i + 1)) 2, Nat.mul_assoc]
    rw [e1, e2]
    simp only [ss]
    rw [if_neg (by omega), if_neg (by omega), Nat.mul_div_cancel_left _ (by decide), Nat.mul_div_cancel_left _ (by decide), ih]
    rw [show q + 1 + i = q + (i + 1) from by omega]
    omega
theorem ss_zero (g : Nat → Nat) : ∀ (k q : Nat), ss g k q 0 = 0
  | 0, _ => rfl
  | k + 1, q => by simp only [ss]; rw [ss_zero g k (q + 1)]; rfl
theorem and_pred : ∀ (i m : Nat), (2 ^ i * (2 * m + 1)) &&& (2 ^ i * (2 * m + 1) - 1) = 2 ^ (i + 1) * m
  | 0, m => by
    have e1 : (2 ^ 0 * (2 * m + 1)) = 2 * m + 1 := by omega
    rw [e1, Nat.add_sub_cancel]
    have h1 : ((2 * m + 1) &&& (2 * m)) / 2 = m := by
      rw [Nat.and_div_two, show (2 * m + 1) / 2 = m from by omega, show 2 * m / 2 = m from by omega, Nat.and_self]
    have h2 : ((2 * m + 1) &&& (2 * m)) % 2 = 0 := by
      have e := Nat.testBit_and (2 * m + 1) (2 * m) 0
      simp only [Nat.testBit_zero] at e
      have h5 := Nat.mod_two_eq_zero_or_one ((2 * m + 1) &&& (2 * m))
      rcases h5 with h5 | h5
      · exact h5
      · simp [h5] at e
    rw [show 2 ^ (0 + 1) = 2 from rfl]
    omega
  | i + 1, m => by
    have ih := and_pred i m
    have hp : 0 < 2 ^ i * (2 * m + 1) := Nat.mul_pos (Nat.two_pow_pos i) (by omega)
    have e1 : 2 ^ (i + 1) * (2 * m + 1) = 2 * (2 ^ i * (2 * m + 1)) := by rw [Nat.pow_succ, Nat.mul_comm (2 ^ i) 2, Nat.mul_assoc]
    have e2 : 2 ^ (i + 1 + 1) * m = 2 * (2 ^ (i + 1) * m) := by rw [Nat.pow_succ, Nat.mul_comm (2 ^ (i + 1)) 2, Nat.mul_assoc]
    rw [e1, e2]
    generalize 2 ^ i * (2 * m + 1) = y at *
    have h1 : ((2 * y) &&& (2 * y - 1)) / 2 = y &&& (y - 1) := by
      rw [Nat.and_div_two, show 2 * y / 2 = y from by omega, show (2 * y - 1) / 2 = y - 1 from by omega]
    have h2 : ((2 * y) &&& (2 * y - 1)) % 2 = 0 := by
      have e := Nat.testBit_and (2 * y) (2 * y - 1) 0
      simp only [Nat.testBit_zero] at e
      have h5 := Nat.mod_two_eq_zero_or_one ((2 * y) &&& (2 * y - 1))
      rcases h5 with h5 | h5
      · exact h5
      · simp [h5] at e
    omega
theorem bth_mod (a b c d : Nat) : ((a ||| b) &&& (c ||| d)) % 2 = 1 ∨ pw a b c d = 0 := by
  have e := Nat.testBit_and (a ||| b) (c ||| d) 0
  rw [Nat.testBit_or, Nat.testBit_or] at e
  simp only [Nat.testBit_zero] at e
  have h1 := Nat.mod_two_eq_zero_or_one a
  have h2 := Nat.mod_two_eq_zero_or_one b
  have h3 := Nat.mod_two_eq_zero_or_one c
  have h4 := Nat.mod_two_eq_zero_or_one d
  have h5 := Nat.mod_two_eq_zero_or_one ((a ||| b) &&& (c ||| d))
  rcases h1 with h1 | h1 <;> rcases h2 with h2 | h2 <;> rcases h3 with h3 | h3 <;> rcases h4 with h4 | h4 <;> rcases h5 with h5 | h5 <;> simp [pw, h1, h2, h3, h4, h5] at e ⊢
theorem or_div_two' (a b : Nat) : (a ||| b) / 2 = a / 2 ||| b / 2 := by
  have e : ∀ x : Nat, x / 2 = x >>> 1 := fun x => by rw [Nat.shiftRight_eq_div_pow]
  rw [e, e, e, Nat.shiftRight_or_distrib]
/-- The power of i is the sum over the qubits at which both strings have letters. -/
theorem ps_ss (A B C D : Nat) : ∀ (k q : Nat), ps k (A / 2 ^ q) (B / 2 ^ q) (C / 2 ^ q) (D / 2 ^ q) = ss (fun q => pw (A / 2 ^ q) (B / 2 ^ q) (C / 2 ^ q) (D / 2 ^ q)) k q ((A / 2 ^ q ||| B / 2 ^ q) &&& (C / 2 ^ q ||| D / 2 ^ q))
  | 0, _ => rfl
  | k + 1, q => by
    have ih := ps_ss A B C D k (q + 1)
    have e : ∀ x : Nat, x / 2 ^ q / 2 = x / 2 ^ (q + 1) := fun x => by rw [Nat.div_div_eq_div_mul, Nat.pow_succ]
    simp only [ps, ss]
    rw [Nat.and_div_two, or_div_two', or_div_two', e, e, e, e, ih]
    congr 1
    rcases bth_mod (A / 2 ^ q) (B / 2 ^ q) (C / 2 ^ q) (D / 2 ^ q) with h | h
    · rw [if_pos h]
    · rw [h]; split <;> rfl
/-- Letters as a pair of numbers. -/
def omv (v w : Nat × Nat) : Bool := om v.1 v.2 w.1 w.2
def vx (v w : Nat × Nat) : Nat × Nat := (v.1 ^^^ w.1, v.2 ^^^ w.2)
theorem omv_r (u v w : Nat × Nat) : omv u (vx v w) = (omv u v ^^ omv u w) := om_xor ..
theorem omv_comm (v w : Nat × Nat) : omv v w = omv w v := om_comm ..
theorem omv_l (u v w : Nat × Nat) : omv (vx v w) u = (omv v u ^^ omv w u) := by rw [omv_comm, omv_r, omv_comm u v, omv_comm u w]
theorem omv_self (v : Nat × Nat) : omv v v = false := by
  unfold omv om
  rw [Nat.and_comm v.2 v.1, Nat.xor_self]
  simp [popN]
/-- A row with the p-th stabilizer multiplied in where it parts with z. -/
def turned (s : Nat × Nat) (z v : Nat × Nat) : Nat × Nat := bif omv v z then vx v s else v
theorem turned_z {s z v : Nat × Nat} (h : omv s z = true) : omv (turned s z v) z = false := by
  unfold turned
  cases h1 : omv v z
  · simpa using h1
  · simp [omv_l, h1, h]
theorem turned_s {s z v w : Nat × Nat} (h : omv s w = false) : omv (turned s z v) w = omv v w := by
  unfold turned
  cases h1 : omv v z
  · simp
  · simp [omv_l, h]
/-- A tableau's laws. -/
structure Sym (n : Nat) (s d : Nat → Nat × Nat) : Prop where
  ss : ∀ i j, i < n → j < n → omv (s i) (s j) = false
  dd : ∀ i j, i < n → j < n → omv (d i) (d j) = false
  ds : ∀ i j, i < n → j < n → omv (d i) (s j) = decide (i = j)
/-- A string put into the place of the stabilizer p, with which it parts: a tableau again. -/
theorem Sym.put {n : Nat} {s d : Nat → Nat × Nat} (h : Sym n s d) {p : Nat} (hp : p < n) {z : Nat × Nat} (hz : omv (s p) z = true) :
    Sym n (fun i => if i = p then z else turned (s p) z (s i)) (fun i => if i = p then s p else turned (s p) z (d i)) := by
  have a1 : ∀ i, i < n → omv (s p) (s i) = false := fun i hi => h.ss p i hp hi
  have a2 : ∀ i, i < n → i ≠ p → omv (s p) (d i) = false := fun i hi hne => by
    rw [omv_comm, h.ds i p hi hp]; exact decide_eq_false hne
  refine ⟨fun i j hi hj => ?_, fun i j hi hj => ?_, fun i j hi hj => ?_⟩
  · by_cases e1 : i = p <;> by_cases e2 : j = p <;> simp only [e1, e2, if_true, if_false]
    · exact omv_self z
    · rw [omv_comm]; exact turned_z hz
    · exact turned_z hz
    · rw [turned_s, omv_comm, turned_s (a1 i hi)]
      · exact h.ss j i hj hi
      · rw [omv_comm, turned_s (a1 p hp)]; exact h.ss j p hj hp
  · by_cases e1 : i = p <;> by_cases e2 : j = p <;> simp only [e1, e2, if_true, if_false]
    · exact omv_self _
    · rw [omv_comm, turned_s (a1 p hp), omv_comm]; exact a2 j hj e2
    · rw [turned_s (a1 p hp), omv_comm]; exact a2 i hi e1
    · rw [turned_s, omv_comm, turned_s (a2 i hi e1)]
      · exact h.dd j i hj hi
      · rw [omv_comm, turned_s (a1 p hp), omv_comm]; exact a2 j hj e2
  · by_cases e1 : i = p <;> by_cases e2 : j = p <;> simp only [e1, e2, if_true, if_false]
    · simpa using hz
    · rw [omv_comm, turned_s (a1 p hp), omv_comm, a1 j hj]; exact (decide_eq_false (fun e => e2 e.symm)).symm
    · rw [turned_z hz]; simp
    · rw [turned_s, omv_comm, turned_s (a2 i hi e1), omv_comm]
      · exact h.ds i j hi hj
      · rw [omv_comm, turned_s (a1 p hp), omv_comm]; exact a1 j hj
theorem and_mod2 (a b : Nat) (h : a % 2 = 0 ∨ b % 2 = 0) : (a &&& b) % 2 = 0 := by
  have e := Nat.testBit_and a b 0
  simp only [Nat.testBit_zero] at e
  have h5 := Nat.mod_two_eq_zero_or_one (a &&& b)
  rcases h5 with h5 | h5
  · exact h5
  · rcases h with h | h <;> simp [h5, h] at e
theorem and_odd (a b : Nat) (h1 : a % 2 = 1) (h2 : b % 2 = 1) : (a &&& b) % 2 = 1 := by
  have e := Nat.testBit_and a b 0
  simp only [Nat.testBit_zero] at e
  have h5 := Nat.mod_two_eq_zero_or_one (a &&& b)
  rcases h5 with h5 | h5
  · simp [h5, h1, h2] at e
  · exact h5
/-- A number and what it lacks share no bit. -/
theorem and_comp : ∀ (k m : Nat), m < 2 ^ k → m &&& (2 ^ k - 1 - m) = 0
  | 0, m, h => by
    have : m = 0 := by simpa using h
    subst this; rfl
  | k + 1, m, h => by
    rw [Nat.pow_succ] at h ⊢
    have ih := and_comp k (m / 2) (by omega)
    have h1 : (m &&& (2 ^ k * 2 - 1 - m)) / 2 = 0 := by
      rw [Nat.and_div_two, show (2 ^ k * 2 - 1 - m) / 2 = 2 ^ k - 1 - m / 2 from by omega, ih]
    have h2 : (m &&& (2 ^ k * 2 - 1 - m)) % 2 = 0 := and_mod2 _ _ (by omega)
    omega
/-- The lowest bit alone: x & -x. -/
theorem and_neg : ∀ (i k m : Nat), 2 ^ i * (2 * m + 1) < 2 ^ k → (2 ^ i * (2 * m + 1)) &&& (2 ^ k - 2 ^ i * (2 * m + 1)) = 2 ^ i
  | 0, 0, m, h => by simp at h
  | 0, k + 1, m, h => by
    rw [Nat.pow_succ] at h ⊢
    have e1 : (2 ^ 0 * (2 * m + 1)) = 2 * m + 1 := by omega
    rw [e1] at h ⊢
    have hc := and_comp k m (by omega)
    have h1 : ((2 * m + 1) &&& (2 ^ k * 2 - (2 * m + 1))) / 2 = 0 := by
      rw [Nat.and_div_two, show (2 * m + 1) / 2 = m from by omega, show (2 ^ k * 2 - (2 * m + 1)) / 2 = 2 ^ k - 1 - m from by omega, hc]
    have h2 : ((2 * m + 1) &&& (2 ^ k * 2 - (2 * m + 1))) % 2 = 1 := and_odd _ _ (by omega) (by omega)
    rw [Nat.pow_zero]
    omega
  | i + 1, 0, m, h => by
    have hp : 0 < 2 ^ (i + 1) * (2 * m + 1) := Nat.mul_pos (Nat.two_pow_pos _) (by omega)
    simp only [Nat.pow_zero] at h
    omega
  | i + 1, k + 1, m, h => by
    have hp : 0 < 2 ^ i * (2 * m + 1) := Nat.mul_pos (Nat.two_pow_pos i) (by omega)
    have e1 : 2 ^ (i + 1) * (2 * m + 1) = 2 * (2 ^ i * (2 * m + 1)) := by rw [Nat.pow_succ, Nat.mul_comm (2 ^ i) 2, Nat.mul_assoc]
    rw [e1, Nat.pow_succ] at h
    have ih := and_neg i k m (by omega)
    rw [e1, Nat.pow_succ 2 k, Nat.pow_succ 2 i]
    generalize 2 ^ i * (2 * m + 1) = y at *
    have h1 : ((2 * y) &&& (2 ^ k * 2 - 2 * y)) / 2 = y &&& (2 ^ k - y) := by
      rw [Nat.and_div_two, show 2 * y / 2 = y from by omega, show (2 ^ k * 2 - 2 * y) / 2 = 2 ^ k - y from by omega]
    have h2 : ((2 * y) &&& (2 ^ k * 2 - 2 * y)) % 2 = 0 := and_mod2 _ _ (by omega)
    omega
end Go.Proofs.YtogkkamlmklpkaaDoor.Ab
