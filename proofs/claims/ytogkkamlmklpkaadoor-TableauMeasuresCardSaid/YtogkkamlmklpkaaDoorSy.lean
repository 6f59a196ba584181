/- Plain Lean: as many vectors of bits as there are bits, with a dual row, make every vector (by counting). -/
import Derived.Test.YtogkkamlmklpkaaDoorW1
set_option linter.unusedVariables false
set_option linter.unusedSimpArgs false
namespace Go.Proofs.YtogkkamlmklpkaaDoor.Ab
/-- What takes the numbers below M to unlike ones below M reaches them all. -/
theorem inj_surj : ∀ (M : Nat) (f : Nat → Nat), (∀ i, i < M → f i < M) → (∀ i j, i < M → j < M → f i = f j → i = j) → ∀ y, y < M → ∃ x, x < M ∧ f x = y
  | 0, f, _, _, y, hy => absurd hy (by omega)
  | M + 1, f, hf, hi, y, hy => by
    have ha := hf M (by omega)
    let g : Nat → Nat := fun i => if f i = M then f M else f i
    have hg1 : ∀ i, i < M → f i = M → f M < M := fun i h e => by
      have : f M ≠ M := fun e' => by
        have := hi i M (by omega) (by omega) (by omega)
        omega
      omega
    have hg : ∀ i, i < M → g i < M := fun i h => by
      simp only [g]
      split
      · exact hg1 i h ‹_›
      · have := hf i (by omega); omega
    have hgi : ∀ i j, i < M → j < M → g i = g j → i = j := fun i j h1 h2 e => by
      simp only [g] at e
      split at e
      · split at e
        · exact hi i j (by omega) (by omega) (by omega)
        · have := hi M j (by omega) (by omega) e; omega
      · split at e
        · have := hi i M (by omega) (by omega) e; omega
        · exact hi i j (by omega) (by omega) e
    by_cases h : y = f M
    · exact ⟨M, by omega, h.symm⟩
    · by_cases h1 : y = M
      · obtain ⟨x, hx, e⟩ := inj_surj M g hg hgi (f M) (by omega)
        simp only [g] at e
        split at e
        · exact ⟨x, by omega, by omega⟩
        · have := hi x M (by omega) (by omega) e; omega
      · obtain ⟨x, hx, e⟩ := inj_surj M g hg hgi y (by omega)
        simp only [g] at e
        split at e
        · exact absurd e.symm h
        · exact ⟨x, by omega, e⟩
/-- The sum of some of the first k rows. -/
def comb (r : Nat → Nat) (c : Nat → Bool) : Nat → Nat
  | 0 => 0
  | k + 1 => comb r c k ^^^ (bif c k then r k else 0)
theorem comb_lt {r : Nat → Nat} {c : Nat → Bool} {m : Nat} : ∀ k, k ≤ m → (∀ j, j < m → r j < 2 ^ m) → comb r c k < 2 ^ m
  | 0, _, _ => Nat.two_pow_pos m
  | k + 1, hk, h => by
    simp only [comb]
    refine Nat.xor_lt_two_pow (comb_lt k (by omega) h) ?_
    cases c k
    · exact Nat.two_pow_pos m
    · exact h k (by omega)
theorem comb_dual {b : Nat → Bool} {r : Nat → Nat} {c : Nat → Bool} {i m : Nat} (h0 : b 0 = false) (hx : ∀ x y, b (x ^^^ y) = (b x ^^ b y)) (hd : ∀ j, j < m → b (r j) = decide (i = j)) :
    ∀ k, k ≤ m → b (comb r c k) = (decide (i < k) && c i)
  | 0, _ => by simp [comb, h0]
  | k + 1, hk => by
    simp only [comb, hx, comb_dual h0 hx hd k (by omega)]
    have e : b (bif c k then r k else 0) = (c k && decide (i = k)) := by
      cases hc : c k
      · simpa using h0
      · simpa using hd k (by omega)
    rw [e]
    by_cases h1 : i = k
    · subst h1; simp
    · have : decide (i < k + 1) = decide (i < k) := by
        apply decide_eq_decide.2; omega
      simp [h1, this]
theorem comb_congr {r : Nat → Nat} {c c' : Nat → Bool} : ∀ k, (∀ j, j < k → c j = c' j) → comb r c k = comb r c' k
  | 0, _ => rfl
  | k + 1, h => by simp only [comb]; rw [comb_congr k (fun j hj => h j (by omega)), h k (by omega)]
/-- Rows with duals, as many as there are bits: each vector is the sum of the rows whose duals see it. -/
theorem dual_basis {m : Nat} {r : Nat → Nat} {b : Nat → Nat → Bool} (h0 : ∀ i, i < m → b i 0 = false) (hx : ∀ i, i < m → ∀ x y, b i (x ^^^ y) = (b i x ^^ b i y)) (hd : ∀ i j, i < m → j < m → b i (r j) = decide (i = j))
    (hr : ∀ j, j < m → r j < 2 ^ m) {v : Nat} (hv : v < 2 ^ m) : comb r (fun j => b j v) m = v := by
  have hb : ∀ i, i < m → ∀ c, b i (comb r c m) = c i := fun i hi c => by
    rw [comb_dual (h0 i hi) (hx i hi) (fun j hj => hd i j hi hj) m (Nat.le_refl _)]; simp [hi]
  obtain ⟨x, hx1, hx2⟩ := inj_surj (2 ^ m) (fun x => comb r (fun j => x.testBit j) m) (fun i _ => comb_lt m (Nat.le_refl _) hr) (fun x y h1 h2 e => by
    apply Nat.eq_of_testBit_eq
    intro i
    by_cases hi : i < m
    · have e1 := hb i hi (fun j => x.testBit j)
      have e2 := hb i hi (fun j => y.testBit j)

      rw [e, e2] at e1
      exact e1.symm
    · have h3 : 2 ^ m ≤ 2 ^ i := Nat.pow_le_pow_right (by omega) (by omega)
      rw [Nat.testBit_lt_two_pow (by omega), Nat.testBit_lt_two_pow (by omega)]) v hv
  subst hx2
  apply comb_congr
  intro j hj
  exact hb j hj _
/-- Does the string with letters (x, z) part with (x', z')? -/
def om (x z x' z' : Nat) : Bool := decide (popN ((x &&& z') ^^^ (z &&& x')) % 2 = 1)
theorem pop_xor' (a b : Nat) : popN (a ^^^ b) % 2 = (popN a + popN b) % 2 := by
  have h1 : a < 2 ^ (a + b) := Nat.lt_of_lt_of_le Nat.lt_two_pow_self (Nat.pow_le_pow_right (by omega) (by omega))
  have h2 : b < 2 ^ (a + b) := Nat.lt_of_lt_of_le Nat.lt_two_pow_self (Nat.pow_le_pow_right (by omega) (by omega))
  exact pop_xor (a + b) a b h1 h2
theorem and_xor_l (a b c : Nat) : a &&& (b ^^^ c) = (a &&& b) ^^^ (a &&& c) := by
  apply Nat.eq_of_testBit_eq
  intro i
  simp only [Nat.testBit_and, Nat.testBit_xor]
  cases a.testBit i <;> cases b.testBit i <;> cases c.testBit i <;> rfl
theorem om_xor (x z a b c d : Nat) : om x z (a ^^^ c) (b ^^^ d) = (om x z a b ^^ om x z c d) := by
  unfold om
  have e : (x &&& (b ^^^ d)) ^^^ (z &&& (a ^^^ c)) = ((x &&& b) ^^^ (z &&& a)) ^^^ ((x &&& d) ^^^ (z &&& c)) := by
    rw [and_xor_l, and_xor_l]
    ac_rfl
  rw [e]
  have h := pop_xor' ((x &&& b) ^^^ (z &&& a)) ((x &&& d) ^^^ (z &&& c))
  generalize popN ((x &&& b) ^^^ (z &&& a)) = u at *
  generalize popN ((x &&& d) ^^^ (z &&& c)) = w at *
  rw [h, Bool.eq_iff_iff]
  simp only [decide_eq_true_eq, bne_iff_ne, ne_eq, decide_eq_decide]
  omega
theorem om_comm (x z a b : Nat) : om x z a b = om a b x z := by
  unfold om
  rw [show (x &&& b) ^^^ (z &&& a) = (a &&& z) ^^^ (b &&& x) from by rw [Nat.and_comm x b, Nat.and_comm z a, Nat.xor_comm]]
theorem om_zero (x z : Nat) : om x z 0 0 = false := by simp [om, popN]
/-- A vector's halves. -/
theorem enc_mod (n x z : Nat) (hx : x < 2 ^ n) : (x + 2 ^ n * z) % 2 ^ n = x := by
  rw [Nat.add_mul_mod_self_left, Nat.mod_eq_of_lt hx]
theorem enc_div (n x z : Nat) (hx : x < 2 ^ n) : (x + 2 ^ n * z) / 2 ^ n = z := by
  rw [Nat.add_mul_div_left _ _ (Nat.two_pow_pos n), Nat.div_eq_of_lt hx, Nat.zero_add]
theorem enc_lt (n x z : Nat) (hx : x < 2 ^ n) (hz : z < 2 ^ n) : x + 2 ^ n * z < 2 ^ (n + n) := by
  rw [Nat.pow_add]
  have := Nat.mul_le_mul_left (2 ^ n) (Nat.succ_le_of_lt hz)
  rw [Nat.mul_succ] at this
  omega
theorem xor_div (n a b : Nat) : (a ^^^ b) / 2 ^ n = (a / 2 ^ n) ^^^ (b / 2 ^ n) := by
  rw [← Nat.shiftRight_eq_div_pow, ← Nat.shiftRight_eq_div_pow, ← Nat.shiftRight_eq_div_pow, Nat.shiftRight_xor_distrib]
theorem comb_mod (n : Nat) (r : Nat → Nat) (c : Nat → Bool) : ∀ k, comb r c k % 2 ^ n = comb (fun j => r j % 2 ^ n) c k
  | 0 => by simp [comb]
  | k + 1 => by
    simp only [comb]
    rw [Nat.xor_mod_two_pow, comb_mod n r c k]
    cases c k <;> simp
theorem comb_div (n : Nat) (r : Nat → Nat) (c : Nat → Bool) : ∀ k, comb r c k / 2 ^ n = comb (fun j => r j / 2 ^ n) c k
  | 0 => by simp [comb]
  | k + 1 => by
    simp only [comb]
    rw [xor_div, comb_div n r c k]
    cases c k <;> simp
theorem comb_off (r : Nat → Nat) (c : Nat → Bool) (n : Nat) : ∀ k, (∀ j, n ≤ j → j < n + k → c j = false) → comb r c (n + k) = comb r c n
  | 0, _ => rfl
  | k + 1, h => by
    rw [show n + (k + 1) = (n + k) + 1 from rfl]
    simp only [comb]
    rw [comb_off r c n k (fun j h1 h2 => h j h1 (by omega)), h (n + k) (by omega) (by omega)]
    simp
theorem comb_same {r r' : Nat → Nat} {c : Nat → Bool} : ∀ k, (∀ j, j < k → r j = r' j) → comb r c k = comb r' c k
  | 0, _ => rfl
  | k + 1, h => by simp only [comb]; rw [comb_same k (fun j hj => h j (by omega)), h k (by omega)]
/-- Stabilizers and destabilizers: what parts with no stabilizer is the product of those whose destabilizers it parts with. -/
theorem span_stab {n : Nat} {sx sz dx dz : Nat → Nat} (b1 : ∀ i, i < n → sx i < 2 ^ n) (b2 : ∀ i, i < n → sz i < 2 ^ n) (b3 : ∀ i, i < n → dx i < 2 ^ n) (b4 : ∀ i, i < n → dz i < 2 ^ n)
    (hss : ∀ i j, i < n → j < n → om (sx i) (sz i) (sx j) (sz j) = false) (hdd : ∀ i j, i < n → j < n → om (dx i) (dz i) (dx j) (dz j) = false)
    (hds : ∀ i j, i < n → j < n → om (dx i) (dz i) (sx j) (sz j) = decide (i = j)) {x z : Nat} (hx : x < 2 ^ n) (hz : z < 2 ^ n) (hc : ∀ i, i < n → om (sx i) (sz i) x z = false) :
    comb sx (fun j => om (dx j) (dz j) x z) n = x ∧ comb sz (fun j => om (dx j) (dz j) x z) n = z := by
  let r : Nat → Nat := fun j => if j < n then sx j + 2 ^ n * sz j else dx (j - n) + 2 ^ n * dz (j - n)
  let b : Nat → Nat → Bool := fun j v => if j < n then om (dx j) (dz j) (v % 2 ^ n) (v / 2 ^ n) else om (sx (j - n)) (sz (j - n)) (v % 2 ^ n) (v / 2 ^ n)
  have r1 : ∀ j, j < n → r j % 2 ^ n = sx j ∧ r j / 2 ^ n = sz j := fun j h => by
    simp only [r, if_pos h]; exact ⟨enc_mod n _ _ (b1 j h), enc_div n _ _ (b1 j h)⟩
  have r2 : ∀ j, j < n → r (n + j) % 2 ^ n = dx j ∧ r (n + j) / 2 ^ n = dz j := fun j h => by
    simp only [r, if_neg (show ¬ n + j < n by omega), Nat.add_sub_cancel_left]; exact ⟨enc_mod n _ _ (b3 j h), enc_div n _ _ (b3 j h)⟩
  have c1 : ∀ j v, j < n → b j v = om (dx j) (dz j) (v % 2 ^ n) (v / 2 ^ n) := fun j v h => by simp only [b, if_pos h]
  have c2 : ∀ j v, j < n → b (n + j) v = om (sx j) (sz j) (v % 2 ^ n) (v / 2 ^ n) := fun j v h => by simp only [b, if_neg (show ¬ n + j < n by omega), Nat.add_sub_cancel_left]
  have two : ∀ j, j < n + n → j < n ∨ ∃ i, i < n ∧ j = n + i := fun j h => by
    by_cases h1 : j < n
    · exact .inl h1
    · exact .inr ⟨j - n, by omega, by omega⟩
  have key := dual_basis (m := n + n) (r := r) (b := b) (fun i hi => by
      rcases two i hi with h | ⟨i, h, rfl⟩
      · rw [c1 i _ h, Nat.zero_mod, Nat.zero_div, om_zero]
      · rw [c2 i _ h, Nat.zero_mod, Nat.zero_div, om_zero])
    (fun i hi v w => by
      rcases two i hi with h | ⟨i, h, rfl⟩
      · rw [c1 i _ h, c1 i _ h, c1 i _ h, Nat.xor_mod_two_pow, xor_div, om_xor]
      · rw [c2 i _ h, c2 i _ h, c2 i _ h, Nat.xor_mod_two_pow, xor_div, om_xor])
    (fun i j hi hj => by
      rcases two i hi with h | ⟨i, h, rfl⟩ <;> rcases two j hj with h' | ⟨j, h', rfl⟩
      · rw [c1 i _ h, (r1 j h').1, (r1 j h').2, hds i j h h']
      · rw [c1 i _ h, (r2 j h').1, (r2 j h').2, hdd i j h h']
        exact (decide_eq_false (by omega)).symm
      · rw [c2 i _ h, (r1 j h').1, (r1 j h').2, hss i j h h']
        exact (decide_eq_false (by omega)).symm
      · rw [c2 i _ h, (r2 j h').1, (r2 j h').2, om_comm, hds j i h' h]
        apply decide_eq_decide.2; omega)
    (fun j hj => by
      rcases two j hj with h | ⟨j, h, rfl⟩
      · simp only [r, if_pos h]; exact enc_lt n _ _ (b1 j h) (b2 j h)
      · simp only [r, if_neg (show ¬ n + j < n by omega), Nat.add_sub_cancel_left]; exact enc_lt n _ _ (b3 j h) (b4 j h))
    (enc_lt n x z hx hz)
  have e1 := enc_mod n x z hx
  have e2 := enc_div n x z hx
  rw [comb_off r _ n n (fun j h1 h2 => by
    obtain ⟨i, rfl⟩ : ∃ i, j = n + i := ⟨j - n, by omega⟩
    rw [c2 i _ (by omega), e1, e2, hc i (by omega)])] at key
  rw [comb_congr (c' := fun j => om (dx j) (dz j) x z) n (fun j hj => by rw [c1 j _ hj, e1, e2])] at key
  have k1 := comb_mod n r (fun j => om (dx j) (dz j) x z) n
  have k2 := comb_div n r (fun j => om (dx j) (dz j) x z) n
  rw [key, e1] at k1
  rw [key, e2] at k2
  exact ⟨(comb_same n fun j hj => ((r1 j hj).1).symm).trans k1.symm, (comb_same n fun j hj => ((r1 j hj).2).symm).trans k2.symm⟩
end Go.Proofs.YtogkkamlmklpkaaDoor.Ab
