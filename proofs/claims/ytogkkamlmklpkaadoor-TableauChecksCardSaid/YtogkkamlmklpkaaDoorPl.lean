import Derived.Test.YtogkkamlmklpkaaDoorD9
set_option maxRecDepth 100000
set_option linter.unusedVariables false
set_option linter.unusedSimpArgs false
namespace Go.Proofs.YtogkkamlmklpkaaDoor.Ab
open Go
/-! ### The count of ones by fields -/
/-- Fields of c bits, k of them, added up. -/
def fsum (c : Nat) : Nat → Nat → Nat
  | 0, _ => 0
  | k + 1, x => x % 2 ^ c + fsum c k (x / 2 ^ c)
theorem and_block (c x m M : Nat) (hm : m < 2 ^ c) : x &&& (2 ^ c * M + m) = 2 ^ c * ((x / 2 ^ c) &&& M) + ((x % 2 ^ c) &&& m) := by
  have h1 : (x % 2 ^ c) &&& m < 2 ^ c := Nat.lt_of_le_of_lt Nat.and_le_right hm
  have h2 : x % 2 ^ c < 2 ^ c := Nat.mod_lt _ (Nat.two_pow_pos c)
  conv => lhs; rw [← Nat.div_add_mod x (2 ^ c)]
  apply Nat.eq_of_testBit_eq
  intro j
  rw [Nat.testBit_and, Nat.testBit_two_pow_mul_add _ h2, Nat.testBit_two_pow_mul_add _ hm, Nat.testBit_two_pow_mul_add _ h1]
  split
  · rw [Nat.testBit_and]
  · rw [Nat.testBit_and]
/-- The mask: of each two fields of w bits the lower one. -/
def lowM (w : Nat) : Nat → Nat
  | 0 => 0
  | k + 1 => 2 ^ (2 * w) * lowM w k + (2 ^ w - 1)
theorem sq_pow (w : Nat) : 2 ^ (2 * w) = 2 ^ w * 2 ^ w := by rw [Nat.two_mul, Nat.pow_add]
theorem pow_pos (w : Nat) : 0 < 2 ^ w := Nat.two_pow_pos w
theorem and_low (w k x : Nat) : x &&& lowM w (k + 1) = 2 ^ (2 * w) * ((x / 2 ^ (2 * w)) &&& lowM w k) + x % 2 ^ w := by
  have hp := pow_pos w
  have hlt : 2 ^ w - 1 < 2 ^ (2 * w) := by
    rw [sq_pow]
    have := Nat.mul_le_mul_left (2 ^ w) hp
    omega
  rw [lowM, and_block _ _ _ _ hlt, Nat.and_two_pow_sub_one_eq_mod]
  congr 1
  rw [sq_pow, Nat.mod_mul_right_mod]
/-- Two neighbours added. -/
def pairs (w k x : Nat) : Nat := ((x / 2 ^ w) &&& lowM w k) + (x &&& lowM w k)
theorem pairs_succ (w k x : Nat) : pairs w (k + 1) x = 2 ^ (2 * w) * pairs w k (x / 2 ^ (2 * w)) + (x / 2 ^ w % 2 ^ w + x % 2 ^ w) := by
  unfold pairs
  have e : x / 2 ^ w / 2 ^ (2 * w) = x / 2 ^ (2 * w) / 2 ^ w := by rw [Nat.div_div_eq_div_mul, Nat.mul_comm, ← Nat.div_div_eq_div_mul]
  rw [and_low, and_low, e, Nat.mul_add]
  omega
theorem pairs_fsum (w : Nat) (hw : 1 ≤ w) : ∀ (k x : Nat), fsum (2 * w) k (pairs w k x) = fsum w (2 * k) x
  | 0, x => rfl
  | k + 1, x => by
    have hp := pow_pos w
    have h2 : 2 ≤ 2 ^ w := by
      have := Nat.pow_le_pow_right (n := 2) (by omega) hw
      simpa using this
    have a1 : x / 2 ^ w % 2 ^ w < 2 ^ w := Nat.mod_lt _ hp
    have a2 : x % 2 ^ w < 2 ^ w := Nat.mod_lt _ hp
    have hlt : x / 2 ^ w % 2 ^ w + x % 2 ^ w < 2 ^ (2 * w) := by
      rw [sq_pow]
      have := Nat.mul_le_mul_right (2 ^ w) h2
      omega
    have ih := pairs_fsum w hw k (x / 2 ^ (2 * w))
    rw [show 2 * (k + 1) = 2 * k + 1 + 1 by omega]
    simp only [fsum]
    rw [pairs_succ, Nat.mul_add_mod, Nat.mod_eq_of_lt hlt, Nat.mul_add_div (pow_pos _), Nat.div_eq_of_lt hlt, Nat.add_zero, ih, Nat.div_div_eq_div_mul, ← sq_pow]
    omega
theorem fsum_one : ∀ (k x : Nat), x < 2 ^ k → fsum 1 k x = popN x
  | 0, x, h => by
    have : x = 0 := by simpa using h
    subst this; simp [fsum, popN]
  | k + 1, x, h => by
    rw [fsum, popN_eq, Nat.pow_one, fsum_one k (x / 2) (by rw [Nat.pow_succ] at h; omega)]
/-- Each of k fields of c bits is at most b. -/
def fle (c b : Nat) : Nat → Nat → Prop
  | 0, _ => True
  | k + 1, x => x % 2 ^ c ≤ b ∧ fle c b k (x / 2 ^ c)
theorem fle_one : ∀ (k x : Nat), fle 1 1 k x
  | 0, _ => trivial
  | k + 1, x => ⟨by rw [Nat.pow_one]; omega, fle_one k _⟩
theorem fle_pairs (w b : Nat) (hw : 1 ≤ w) : ∀ (k x : Nat), fle w b (2 * k) x → fle (2 * w) (2 * b) k (pairs w k x)
  | 0, _, _ => trivial
  | k + 1, x, h => by
    have hp := pow_pos w
    have h2 : 2 ≤ 2 ^ w := by
      have := Nat.pow_le_pow_right (n := 2) (by omega) hw
      simpa using this
    have a1 : x / 2 ^ w % 2 ^ w < 2 ^ w := Nat.mod_lt _ hp
    have a2 : x % 2 ^ w < 2 ^ w := Nat.mod_lt _ hp
    have hlt : x / 2 ^ w % 2 ^ w + x % 2 ^ w < 2 ^ (2 * w) := by
      rw [sq_pow]
      have := Nat.mul_le_mul_right (2 ^ w) h2
      omega
    rw [show 2 * (k + 1) = 2 * k + 1 + 1 by omega] at h
    obtain ⟨b1, b2, b3⟩ := h
    rw [Nat.div_div_eq_div_mul, ← sq_pow] at b3
    have ih := fle_pairs w b hw k _ b3
    refine ⟨?_, ?_⟩
    · rw [pairs_succ, Nat.mul_add_mod, Nat.mod_eq_of_lt hlt]; omega
    · rw [pairs_succ, Nat.mul_add_div (pow_pos _), Nat.div_eq_of_lt hlt, Nat.add_zero]; exact ih
theorem add_mask : ∀ (k y : Nat), fle 4 4 (2 * k) y → (y / 16 + y) &&& lowM 4 k = pairs 4 k y
  | 0, y, _ => by simp [lowM, pairs]
  | k + 1, y, h => by
    rw [show 2 * (k + 1) = 2 * k + 1 + 1 by omega] at h
    obtain ⟨b1, b2, b3⟩ := h
    rw [Nat.div_div_eq_div_mul] at b3
    have e1 : (2 : Nat) ^ 4 = 16 := rfl
    rw [e1] at b1 b2 b3
    have ih := add_mask k (y / 256) b3
    have b4 : (y / 256) % 16 ≤ 4 ∨ k = 0 := by
      cases k with
      | zero => exact .inr rfl
      | succ k =>
        rw [show 2 * (k + 1) = 2 * k + 1 + 1 by omega] at b3
        exact .inl b3.1
    have e2 : (2 : Nat) ^ (2 * 4) = 256 := rfl
    rw [and_low, pairs_succ, e1, e2]
    have m1 : (y / 16 + y) % 16 = y / 16 % 16 + y % 16 := by omega
    rw [m1]
    congr 2
    rcases b4 with b4 | b4
    · have m2 : (y / 16 + y) / 256 = y / 256 / 16 + y / 256 := by
        obtain ⟨r1, r0, hi, lo, e, k0, k1, k2⟩ : ∃ r1 r0 hi lo, y = 4096 * r1 + 256 * r0 + 16 * hi + lo ∧ r0 ≤ 4 ∧ hi ≤ 4 ∧ lo ≤ 4 :=
          ⟨y / 256 / 16, y / 256 % 16, y / 16 % 16, y % 16, by omega, b4, b2, b1⟩
        have e3 : y / 16 = 256 * r1 + 16 * r0 + hi := by omega
        have e4 : y / 256 = 16 * r1 + r0 := by omega
        have e5 : (16 * r1 + r0) / 16 = r1 := by omega
        rw [e3, e4, e5, e]
        clear e e3 e4 e5 b1 b2 b3 b4 m1 ih
        omega
      rw [m2, ih]
    · subst b4
      simp [lowM, pairs]
theorem bytes_total (z : Nat) (h : fle 8 8 8 z) (hz : z < 18446744073709551616) :
    ((z + z / 256) + (z + z / 256) / 65536 + ((z + z / 256) + (z + z / 256) / 65536) / 4294967296) % 128 = fsum 8 8 z ∧ z + z / 256 < 18446744073709551616 ∧ (z + z / 256) + (z + z / 256) / 65536 < 18446744073709551616 ∧
      ((z + z / 256) + (z + z / 256) / 65536) + ((z + z / 256) + (z + z / 256) / 65536) / 4294967296 < 18446744073709551616 ∧ fsum 8 8 z ≤ 64 := by
  simp only [fle, fsum, Nat.reducePow, and_true, Nat.add_zero] at *
  obtain ⟨c0, c1, c2, c3, c4, c5, c6, c7⟩ := h
  generalize g1 : z / 256 = z1 at *
  generalize g2 : z1 / 256 = z2 at *
  generalize g3 : z2 / 256 = z3 at *
  generalize g4 : z3 / 256 = z4 at *
  generalize g5 : z4 / 256 = z5 at *
  generalize g6 : z5 / 256 = z6 at *
  generalize g7 : z6 / 256 = z7 at *
  generalize f0 : z % 256 = b0 at *
  generalize f1 : z1 % 256 = b1 at *
  generalize f2 : z2 % 256 = b2 at *
  generalize f3 : z3 % 256 = b3 at *
  generalize f4 : z4 % 256 = b4 at *
  generalize f5 : z5 % 256 = b5 at *
  generalize f6 : z6 % 256 = b6 at *
  generalize f7 : z7 % 256 = b7 at *
  have r0 : z = 256 * z1 + b0 := by omega
  have r1 : z1 = 256 * z2 + b1 := by omega
  have r2 : z2 = 256 * z3 + b2 := by omega
  have r3 : z3 = 256 * z4 + b3 := by omega
  have r4 : z4 = 256 * z5 + b4 := by omega
  have r5 : z5 = 256 * z6 + b5 := by omega
  have r6 : z6 = 256 * z7 + b6 := by omega
  have r7 : ∃ k, z7 = 256 * k + b7 := ⟨z7 / 256, by omega⟩
  obtain ⟨k, r7⟩ := r7
  clear g1 g2 g3 g4 g5 g6 g7 f0 f1 f2 f3 f4 f5 f6 f7
  have d1 : (z + z1) / 65536 = z2 + z3 := by
    have e1 : z = 65536 * z2 + 256 * b1 + b0 := by omega
    have e2 : z1 = 65536 * z3 + 256 * b2 + b1 := by omega
    rw [e1, e2]
    clear r0 r1 r2 r3 r4 r5 r6 r7 e1 e2 hz
    omega
  have e0 : z = 4294967296 * z4 + 16777216 * b3 + 65536 * b2 + 256 * b1 + b0 := by omega
  have e1 : z1 = 4294967296 * z5 + 16777216 * b4 + 65536 * b3 + 256 * b2 + b1 := by omega
  have e2 : z2 = 4294967296 * z6 + 16777216 * b5 + 65536 * b4 + 256 * b3 + b2 := by omega
  have e3 : z3 = 4294967296 * z7 + 16777216 * b6 + 65536 * b5 + 256 * b4 + b3 := by omega
  have d2 : (z + z1 + (z2 + z3)) / 4294967296 = z4 + z5 + z6 + z7 := by
    clear r0 r1 r2 r3 r4 r5 r6 r7 hz d1
    rw [e0, e1, e2, e3]
    clear e0 e1 e2 e3
    omega
  rw [d1, d2]
  clear d1 d2 e0 e1 e2 e3
  refine ⟨?_, by omega, by omega, by omega, by omega⟩
  clear hz
  omega
end Go.Proofs.YtogkkamlmklpkaaDoor.Ab
