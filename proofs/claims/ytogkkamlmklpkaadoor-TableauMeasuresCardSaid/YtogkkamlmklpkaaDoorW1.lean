/- Plain law: the count of ones, strings that are in order. No condition: lemmas only. -/
import Derived.Test.YtogkkamlmklpkaaDoorHd
set_option maxRecDepth 100000
set_option linter.unusedVariables false
set_option linter.unusedSimpArgs false
namespace Go.Proofs.YtogkkamlmklpkaaDoor.Ab
open Go
def kern : Nat → Int → BitVec 64 → Option Int
  | 0, c, x => if x = 0#64 then some c else none
  | f + 1, c, x => if x = 0#64 then some c else kern f (c + 1) (x &&& (x - 1#64))

def popN : Nat → Nat
  | 0 => 0
  | n + 1 => (n + 1) % 2 + popN ((n + 1) / 2)
theorem popN_eq (n : Nat) : popN n = n % 2 + popN (n / 2) := by
  cases n with
  | zero => simp [popN]
  | succ n => rw [popN]
theorem and_half (a b : Nat) : (a &&& b) / 2 = (a / 2) &&& (b / 2) := Nat.and_div_two
theorem and_mod (a b : Nat) : (a &&& b) % 2 = (a % 2) * (b % 2) := by
  have h1 := Nat.mod_two_eq_zero_or_one a
  have h2 := Nat.mod_two_eq_zero_or_one b
  have e : ∀ n : Nat, n.testBit 0 = decide (n % 2 = 1) := fun n => Nat.testBit_zero n
  have h3 : (a &&& b).testBit 0 = (a.testBit 0 && b.testBit 0) := Nat.testBit_and a b 0
  rw [e, e, e] at h3
  have h4 := Nat.mod_two_eq_zero_or_one (a &&& b)
  rcases h1 with h1 | h1 <;> rcases h2 with h2 | h2 <;> rcases h4 with h4 | h4 <;> simp [h1, h2, h4] at h3 ⊢
theorem pop_step : ∀ n : Nat, 0 < n → popN (n &&& (n - 1)) + 1 = popN n := by
  intro n
  induction n using Nat.strongRecOn with
  | _ n ih =>
    intro h
    rw [popN_eq (n &&& (n - 1)), popN_eq n, and_half, and_mod]
    rcases Nat.mod_two_eq_zero_or_one n with q | q
    · have e1 : (n - 1) / 2 = n / 2 - 1 := by omega
      have := ih (n / 2) (by omega) (by omega)
      rw [e1, q]; omega
    · have e1 : (n - 1) / 2 = n / 2 := by omega
      have e2 : (n - 1) % 2 = 0 := by omega
      rw [e1, e2, q, Nat.and_self]; omega
theorem popN_le : ∀ (k n : Nat), n < 2 ^ k → popN n ≤ k
  | 0, n, h => by
    have : n = 0 := by simpa using h
    subst this; simp [popN]
  | k + 1, n, h => by
    rw [popN_eq]
    have := popN_le k (n / 2) (by rw [Nat.pow_succ] at h; omega)
    omega
theorem popN_zero {n : Nat} (h : popN n = 0) : n = 0 := by
  rcases Nat.eq_zero_or_pos n with q | q
  · exact q
  · have := pop_step n q; omega
theorem kern_pop : ∀ (f : Nat) (c : Int) (x : BitVec 64), popN x.toNat ≤ f → kern f c x = some (c + popN x.toNat)
  | 0, c, x, h => by
    have hx : x.toNat = 0 := popN_zero (by omega)
    have : x = 0#64 := BitVec.eq_of_toNat_eq (by simpa using hx)
    subst this; simp [kern, popN]
  | f + 1, c, x, h => by
    simp only [kern]
    split
    · rename_i hx; subst hx; simp [popN]
    · rename_i hx
      have hpos : 0 < x.toNat := by
        rcases Nat.eq_zero_or_pos x.toNat with q | q
        · exact absurd (BitVec.eq_of_toNat_eq (by simpa using q)) hx
        · exact q
      have e : (x &&& (x - 1#64)).toNat = x.toNat &&& (x.toNat - 1) := by
        rw [BitVec.toNat_and, BitVec.toNat_sub]
        congr 1
        have := x.isLt
        simp only [BitVec.toNat_ofNat, Nat.reducePow, Nat.reduceMod]
        omega
      have ps := pop_step x.toNat hpos
      rw [kern_pop f (c + 1) _ (by rw [e]; omega), e]
      congr 1
      omega
def swar (x : BitVec 64) : BitVec 64 :=
  let x := ((x >>> 1) &&& 6148914691236517205#64) + (x &&& 6148914691236517205#64)
  let x := ((x >>> 2) &&& 3689348814741910323#64) + (x &&& 3689348814741910323#64)
  let x := ((x >>> 4) + x) &&& 1085102592571150095#64
  let x := x + (x >>> 8)
  let x := x + (x >>> 16)
  x + (x >>> 32)
def ones (x : BitVec 64) : Int := bitop .and .i64 (swar x).toInt 127
/-! ### The count of ones by fields -/
/-- Fields of c bits, k of them, added up. -/
def fsum (c : Nat) : Nat → Nat → Nat
  | 0, _ => 0
  | k + 1, x => x % 2 ^ c + fsum c k (x / 2 ^ c)
theorem and_block (c x m M : Nat) (hm : m < 2 ^ c) : x &&& (2 ^ c * M + m) = 2 ^ c * ((x / 2 ^ c) &&& M) + ((x % 2 ^ c) &&& m) := by
  have h1 : (x % 2 ^ c) &&& m < 2 ^ c := Nat.lt_of_le_of_lt Nat.and_le_right hm
  have h2 : x % 2 ^ c < 2 ^ c := Nat.mod_lt _ (Nat.two_pow_pos c)
  conv => lhs; rw [← Nat.div_add_mod x (2 ^ c)]
  apply Nat.eq_of_testBit_eq
  intro j
  rw [Nat.testBit_and, Nat.testBit_two_pow_mul_add _ h2, Nat.testBit_two_pow_mul_add _ hm, Nat.testBit_two_pow_mul_add _ h1]
  split
  · rw [Nat.testBit_and]
  · rw [Nat.testBit_and]
/-- The mask: of each two fields of w bits the lower one. -/
def lowM (w : Nat) : Nat → Nat
  | 0 => 0
  | k + 1 => 2 ^ (2 * w) * lowM w k + (2 ^ w - 1)
theorem sq_pow (w : Nat) : 2 ^ (2 * w) = 2 ^ w * 2 ^ w := by rw [Nat.two_mul, Nat.pow_add]
theorem pow_pos (w : Nat) : 0 < 2 ^ w := Nat.two_pow_pos w
theorem and_low (w k x : Nat) : x &&& lowM w (k + 1) = 2 ^ (2 * w) * ((x / 2 ^ (2 * w)) &&& lowM w k) + x % 2 ^ w := by
  have hp := pow_pos w
  have hlt : 2 ^ w - 1 < 2 ^ (2 * w) := by
    rw [sq_pow]
    have := Nat.mul_le_mul_left (2 ^ w) hp
    omega
  rw [lowM, and_block _ _ _ _ hlt, Nat.and_two_pow_sub_one_eq_mod]
  congr 1
  rw [sq_pow, Nat.mod_mul_right_mod]
/-- Two neighbours added. -/
def pairs (w k x : Nat) : Nat := ((x / 2 ^ w) &&& lowM w k) + (x &&& lowM w k)
theorem pairs_succ (w k x : Nat) : pairs w (k + 1) x = 2 ^ (2 * w) * pairs w k (x / 2 ^ (2 * w)) + (x / 2 ^ w % 2 ^ w + x % 2 ^ w) := by
  unfold pairs
  have e : x / 2 ^ w / 2 ^ (2 * w) = x / 2 ^ (2 * w) / 2 ^ w := by rw [Nat.div_div_eq_div_mul, Nat.mul_comm, ← Nat.div_div_eq_div_mul]
  rw [and_low, and_low, e, Nat.mul_add]
  omega
theorem pairs_fsum (w : Nat) (hw : 1 ≤ w) : ∀ (k x : Nat), fsum (2 * w) k (pairs w k x) = fsum w (2 * k) x
  | 0, x => rfl
  | k + 1, x => by
    have hp := pow_pos w
    have h2 : 2 ≤ 2 ^ w := by
      have := Nat.pow_le_pow_right (n := 2) (by omega) hw
      simpa using this
    have a1 : x / 2 ^ w % 2 ^ w < 2 ^ w := Nat.mod_lt _ hp
    have a2 : x % 2 ^ w < 2 ^ w := Nat.mod_lt _ hp
    have hlt : x / 2 ^ w % 2 ^ w + x % 2 ^ w < 2 ^ (2 * w) := by
      rw [sq_pow]
      have := Nat.mul_le_mul_right (2 ^ w) h2
      omega
    have ih := pairs_fsum w hw k (x / 2 ^ (2 * w))
    rw [show 2 * (k + 1) = 2 * k + 1 + 1 by omega]
    simp only [fsum]
    rw [pairs_succ, Nat.mul_add_mod, Nat.mod_eq_of_lt hlt, Nat.mul_add_div (pow_pos _), Nat.div_eq_of_lt hlt, Nat.add_zero, ih, Nat.div_div_eq_div_mul, ← sq_pow]
    omega
theorem fsum_one : ∀ (k x : Nat), x < 2 ^ k → fsum 1 k x = popN x
  | 0, x, h => by
    have : x = 0 := by simpa using h
    subst this; simp [fsum, popN]
  | k + 1, x, h => by
    rw [fsum, popN_eq, Nat.pow_one, fsum_one k (x / 2) (by rw [Nat.pow_succ] at h; omega)]
/-- Each of k fields of c bits is at most b. -/
def fle (c b : Nat) : Nat → Nat → Prop
  | 0, _ => True
  | k + 1, x => x % 2 ^ c ≤ b ∧ fle c b k (x / 2 ^ c)
theorem fle_one : ∀ (k x : Nat), fle 1 1 k x
  | 0, _ => trivial
  | k + 1, x => ⟨by rw [Nat.pow_one]; omega, fle_one k _⟩
theorem fle_pairs (w b : Nat) (hw : 1 ≤ w) : ∀ (k x : Nat), fle w b (2 * k) x → fle (2 * w) (2 * b) k (pairs w k x)
  | 0, _, _ => trivial
  | k + 1, x, h => by
    have hp := pow_pos w
    have h2 : 2 ≤ 2 ^ w := by
      have := Nat.pow_le_pow_right (n := 2) (by omega) hw
      simpa using this
    have a1 : x / 2 ^ w % 2 ^ w < 2 ^ w := Nat.mod_lt _ hp
    have a2 : x % 2 ^ w < 2 ^ w := Nat.mod_lt _ hp
    have hlt : x / 2 ^ w % 2 ^ w + x % 2 ^ w < 2 ^ (2 * w) := by
      rw [sq_pow]
      have := Nat.mul_le_mul_right (2 ^ w) h2
      omega
    rw [show 2 * (k + 1) = 2 * k + 1 + 1 by omega] at h
    obtain ⟨b1, b2, b3⟩ := h
    rw [Nat.div_div_eq_div_mul, ← sq_pow] at b3
    have ih := fle_pairs w b hw k _ b3
    refine ⟨?_, ?_⟩
    · rw [pairs_succ, Nat.mul_add_mod, Nat.mod_eq_of_lt hlt]; omega
    · rw [pairs_succ, Nat.mul_add_div (pow_pos _), Nat.div_eq_of_lt hlt, Nat.add_zero]; exact ih
theorem add_mask : ∀ (k y : Nat), fle 4 4 (2 * k) y → (y / 16 + y) &&& lowM 4 k = pairs 4 k y
  | 0, y, _ => by simp [lowM, pairs]
  | k + 1, y, h => by
    rw [show 2 * (k + 1) = 2 * k + 1 + 1 by omega] at h
    obtain ⟨b1, b2, b3⟩ := h
    rw [Nat.div_div_eq_div_mul] at b3
    have e1 : (2 : Nat) ^ 4 = 16 := rfl
    rw [e1] at b1 b2 b3
    have ih := add_mask k (y / 256) b3
    have b4 : (y / 256) % 16 ≤ 4 ∨ k = 0 := by
      cases k with
      | zero => exact .inr rfl
      | succ k =>
        rw [show 2 * (k + 1) = 2 * k + 1 + 1 by omega] at b3
        exact .inl b3.1
    have e2 : (2 : Nat) ^ (2 * 4) = 256 := rfl
    rw [and_low, pairs_succ, e1, e2]
    have m1 : (y / 16 + y) % 16 = y / 16 % 16 + y % 16 := by omega
    rw [m1]
    congr 2
    rcases b4 with b4 | b4
    · have m2 : (y / 16 + y) / 256 = y / 256 / 16 + y / 256 := by
        obtain ⟨r1, r0, hi, lo, e, k0, k1, k2⟩ : ∃ r1 r0 hi lo, y = 4096 * r1 + 256 * r0 + 16 * hi + lo ∧ r0 ≤ 4 ∧ hi ≤ 4 ∧ lo ≤ 4 :=
          ⟨y / 256 / 16, y / 256 % 16, y / 16 % 16, y % 16, by omega, b4, b2, b1⟩
        have e3 : y / 16 = 256 * r1 + 16 * r0 + hi := by omega
        have e4 : y / 256 = 16 * r1 + r0 := by omega
        have e5 : (16 * r1 + r0) / 16 = r1 := by omega
        rw [e3, e4, e5, e]
        clear e e3 e4 e5 b1 b2 b3 b4 m1 ih
        omega
      rw [m2, ih]
    · subst b4
      simp [lowM, pairs]
theorem bytes_total (z : Nat) (h : fle 8 8 8 z) (hz : z < 18446744073709551616) :
    ((z + z / 256) + (z + z / 256) / 65536 + ((z + z / 256) + (z + z / 256) / 65536) / 4294967296) % 128 = fsum 8 8 z ∧ z + z / 256 < 18446744073709551616 ∧ (z + z / 256) + (z + z / 256) / 65536 < 18446744073709551616 ∧
      ((z + z / 256) + (z + z / 256) / 65536) + ((z + z / 256) + (z + z / 256) / 65536) / 4294967296 < 18446744073709551616 ∧ fsum 8 8 z ≤ 64 := by
  simp only [fle, fsum, Nat.reducePow, and_true, Nat.add_zero] at *
  obtain ⟨c0, c1, c2, c3, c4, c5, c6, c7⟩ := h
  generalize g1 : z / 256 = z1 at *
  generalize g2 : z1 / 256 = z2 at *
  generalize g3 : z2 / 256 = z3 at *
  generalize g4 : z3 / 256 = z4 at *
  generalize g5 : z4 / 256 = z5 at *
  generalize g6 : z5 / 256 = z6 at *
  generalize g7 : z6 / 256 = z7 at *
  generalize f0 : z % 256 = b0 at *
  generalize f1 : z1 % 256 = b1 at *
  generalize f2 : z2 % 256 = b2 at *
  generalize f3 : z3 % 256 = b3 at *
  generalize f4 : z4 % 256 = b4 at *
  generalize f5 : z5 % 256 = b5 at *
  generalize f6 : z6 % 256 = b6 at *
  generalize f7 : z7 % 256 = b7 at *
  have r0 : z = 256 * z1 + b0 := by omega
  have r1 : z1 = 256 * z2 + b1 := by omega
  have r2 : z2 = 256 * z3 + b2 := by omega
  have r3 : z3 = 256 * z4 + b3 := by omega
  have r4 : z4 = 256 * z5 + b4 := by omega
  have r5 : z5 = 256 * z6 + b5 := by omega
  have r6 : z6 = 256 * z7 + b6 := by omega
  have r7 : ∃ k, z7 = 256 * k + b7 := ⟨z7 / 256, by omega⟩
  obtain ⟨k, r7⟩ := r7
  clear g1 g2 g3 g4 g5 g6 g7 f0 f1 f2 f3 f4 f5 f6 f7
  have d1 : (z + z1) / 65536 = z2 + z3 := by
    have e1 : z = 65536 * z2 + 256 * b1 + b0 := by omega
    have e2 : z1 = 65536 * z3 + 256 * b2 + b1 := by omega
    rw [e1, e2]
    clear r0 r1 r2 r3 r4 r5 r6 r7 e1 e2 hz
    omega
  have e0 : z = 4294967296 * z4 + 16777216 * b3 + 65536 * b2 + 256 * b1 + b0 := by omega
  have e1 : z1 = 4294967296 * z5 + 16777216 * b4 + 65536 * b3 + 256 * b2 + b1 := by omega
  have e2 : z2 = 4294967296 * z6 + 16777216 * b5 + 65536 * b4 + 256 * b3 + b2 := by omega
  have e3 : z3 = 4294967296 * z7 + 16777216 * b6 + 65536 * b5 + 256 * b4 + b3 := by omega
  have d2 : (z + z1 + (z2 + z3)) / 4294967296 = z4 + z5 + z6 + z7 := by
    clear r0 r1 r2 r3 r4 r5 r6 r7 hz d1
    rw [e0, e1, e2, e3]
    clear e0 e1 e2 e3
    omega
  rw [d1, d2]
  clear d1 d2 e0 e1 e2 e3
  refine ⟨?_, by omega, by omega, by omega, by omega⟩
  clear hz
  omega
theorem tn_shr (x : BitVec 64) (k : Nat) : (x >>> k).toNat = x.toNat / 2 ^ k := by rw [BitVec.toNat_ushiftRight, Nat.shiftRight_eq_div_pow]
theorem tn_add {x y : BitVec 64} (h : x.toNat + y.toNat < 18446744073709551616) : (x + y).toNat = x.toNat + y.toNat := by
  rw [BitVec.toNat_add]; exact Nat.mod_eq_of_lt (by simpa using h)
theorem low1 : lowM 1 32 = 6148914691236517205 := by decide
theorem low2 : lowM 2 16 = 3689348814741910323 := by decide
theorem low4 : lowM 4 8 = 1085102592571150095 := by decide
theorem fsum_b (c b : Nat) : ∀ (k x : Nat), fle c b k x → fsum c k x ≤ k * b
  | 0, _, _ => Nat.zero_le _
  | k + 1, x, h => by
    have := fsum_b c b k _ h.2
    have h1 := h.1
    simp only [fsum]
    rw [Nat.succ_mul]; omega
/-- The program's count is the number of ones. -/
theorem ones_pop (x : BitVec 64) : ones x = (popN x.toNat : Int) := by
  have hx := x.isLt
  have n1 : (((x >>> 1) &&& 6148914691236517205#64) + (x &&& 6148914691236517205#64)).toNat = pairs 1 32 x.toNat := by
    rw [tn_add, BitVec.toNat_and, BitVec.toNat_and, tn_shr]
    · unfold pairs; rw [low1]; rfl
    · rw [BitVec.toNat_and, BitVec.toNat_and]
      have a := Nat.and_le_right (n := (x >>> 1).toNat) (m := (6148914691236517205#64).toNat)
      have b := Nat.and_le_right (n := x.toNat) (m := (6148914691236517205#64).toNat)
      simp only [BitVec.toNat_ofNat] at a b ⊢
      omega
  generalize hx1 : ((x >>> 1) &&& 6148914691236517205#64) + (x &&& 6148914691236517205#64) = x1 at n1
  have n2 : (((x1 >>> 2) &&& 3689348814741910323#64) + (x1 &&& 3689348814741910323#64)).toNat = pairs 2 16 x1.toNat := by
    rw [tn_add, BitVec.toNat_and, BitVec.toNat_and, tn_shr]
    · unfold pairs; rw [low2]; rfl
    · rw [BitVec.toNat_and, BitVec.toNat_and]
      have a := Nat.and_le_right (n := (x1 >>> 2).toNat) (m := (3689348814741910323#64).toNat)
      have b := Nat.and_le_right (n := x1.toNat) (m := (3689348814741910323#64).toNat)
      simp only [BitVec.toNat_ofNat] at a b ⊢
      omega
  generalize hx2 : ((x1 >>> 2) &&& 3689348814741910323#64) + (x1 &&& 3689348814741910323#64) = x2 at n2
  have f1 : fle 2 2 32 x1.toNat := by rw [n1]; exact fle_pairs 1 1 (by omega) 32 _ (fle_one 64 _)
  have f2 : fle 4 4 16 x2.toNat := by rw [n2]; exact fle_pairs 2 2 (by omega) 16 _ f1
  have t2 : x2.toNat ≤ 4919131752989213764 + 0 := by
    have h := f2
    simp only [fle, Nat.reducePow, and_true] at h
    omega
  have n3 : (((x2 >>> 4) + x2) &&& 1085102592571150095#64).toNat = pairs 4 8 x2.toNat := by
    rw [BitVec.toNat_and, tn_add, tn_shr]
    · have := add_mask 8 x2.toNat f2
      rw [low4] at this
      exact this
    · rw [tn_shr]; omega
  generalize hx3 : ((x2 >>> 4) + x2) &&& 1085102592571150095#64 = x3 at n3
  have f3 : fle 8 8 8 x3.toNat := by rw [n3]; exact fle_pairs 4 4 (by omega) 8 _ f2
  obtain ⟨b1, b2, b3, b4, b5⟩ := bytes_total x3.toNat f3 x3.isLt
  have s3 : fsum 8 8 x3.toNat = popN x.toNat := by
    rw [n3, pairs_fsum 4 (by omega) 8, n2, pairs_fsum 2 (by omega) 16, n1, pairs_fsum 1 (by omega) 32]
    exact fsum_one 64 _ (by simpa using hx)
  have m1 : (x3 + (x3 >>> 8)).toNat = x3.toNat + x3.toNat / 256 := by rw [tn_add, tn_shr]; rw [tn_shr]; exact b2
  have m2 : (x3 + (x3 >>> 8) + ((x3 + (x3 >>> 8)) >>> 16)).toNat = (x3.toNat + x3.toNat / 256) + (x3.toNat + x3.toNat / 256) / 65536 := by
    rw [tn_add, tn_shr, m1]; rw [tn_shr, m1]; exact b3
  have m3 : (swar x).toNat = (x3.toNat + x3.toNat / 256) + (x3.toNat + x3.toNat / 256) / 65536 + ((x3.toNat + x3.toNat / 256) + (x3.toNat + x3.toNat / 256) / 65536) / 4294967296 := by
    unfold swar
    simp only [hx1, hx2, hx3]
    rw [tn_add, tn_shr, m2]; rw [tn_shr, m2]; exact b4
  unfold ones bitop
  have e1 : ((swar x).toInt % 2 ^ IntKind.i64.bits).toNat = (swar x).toNat := by
    have hb : (2 : Int) ^ IntKind.i64.bits = 18446744073709551616 := by decide
    have hl := (swar x).isLt
    rw [hb, BitVec.toInt_eq_toNat_cond]
    split <;> omega
  have e2 : ((127 : Int) % 2 ^ IntKind.i64.bits).toNat = 2 ^ 7 - 1 := by decide
  simp only [e1, e2]
  rw [Nat.and_two_pow_sub_one_eq_mod, m3]
  rw [show (2 : Nat) ^ 7 = 128 from rfl, b1, s3]
  exact wrap_of ⟨by omega, by omega⟩
theorem pop_xor : ∀ (n a b : Nat), a < 2 ^ n → b < 2 ^ n → popN (a ^^^ b) % 2 = (popN a + popN b) % 2
  | 0, a, b, ha, hb => by
    have : a = 0 := by simpa using ha
    have : b = 0 := by simpa using hb
    subst a b; simp [popN]
  | n + 1, a, b, ha, hb => by
    rw [Nat.pow_succ] at ha hb
    have ih := pop_xor n (a / 2) (b / 2) (by omega) (by omega)
    have hd : (a ^^^ b) / 2 = a / 2 ^^^ b / 2 := Nat.xor_div_two
    have hm : (a ^^^ b) % 2 = (a % 2 + b % 2) % 2 := by
      have h1 := Nat.mod_two_eq_zero_or_one a
      have h2 := Nat.mod_two_eq_zero_or_one b
      have h4 := Nat.mod_two_eq_zero_or_one (a ^^^ b)
      have h3 : (a ^^^ b).testBit 0 = (a.testBit 0 ^^ b.testBit 0) := Nat.testBit_xor a b 0
      rw [Nat.testBit_zero, Nat.testBit_zero, Nat.testBit_zero] at h3
      rcases h1 with h1 | h1 <;> rcases h2 with h2 | h2 <;> rcases h4 with h4 | h4 <;> simp [h1, h2, h4] at h3 ⊢
    rw [popN_eq (a ^^^ b), popN_eq a, popN_eq b, hd, hm]
    omega
def Pl.ok (p : Pl) : Bool := decide (0 ≤ p.N) && decide (p.N ≤ 64) && decide (0 ≤ p.Ph) && decide (p.Ph ≤ 3) && (decide (¬ p.N < 64) || decide ((p.X ||| p.Z) >>> p.N.toNat = 0#64))
def bitAt (x : BitVec 64) (q : Int) : BitVec 64 := (x >>> (BitVec.ofInt 64 q).toNat) &&& 1#64
def isOne (x : BitVec 64) (q : Int) : Bool := decide ((bitAt x q).toInt = 1)
def clr (X Z : BitVec 64) : Nat → Int → Bool
  | 0, _ => true
  | f + 1, q => decide (64 ≤ q) || (!isOne X q && !isOne Z q && clr X Z f (q + 1))
def Pl.okR (p : Pl) (f : Nat) : Bool := decide (0 ≤ p.N) && decide (p.N ≤ 64) && decide (0 ≤ p.Ph) && decide (p.Ph ≤ 3) && clr p.X p.Z f p.N
theorem isOne_tb (x : BitVec 64) (q : Nat) (hq : q < 64) : isOne x (q : Int) = x.toNat.testBit q := by
  have hk : (BitVec.ofInt 64 (q : Int)).toNat = q := by simp; omega
  have hn : (bitAt x q).toNat = x.toNat / 2 ^ q % 2 := by
    unfold bitAt
    rw [hk, BitVec.toNat_and, tn_shr]
    exact Nat.and_one_is_mod _
  have h2 : x.toNat / 2 ^ q % 2 < 2 := Nat.mod_lt _ (by decide)
  unfold isOne
  rw [Nat.testBit_eq_decide_div_mod_eq]
  have hi : (bitAt x q).toInt = ((bitAt x q).toNat : Int) := BitVec.toInt_eq_toNat_of_lt (by rw [hn]; omega)
  rw [hi, hn]
  congr 1
  apply propext
  omega
theorem half_zero (y q : Nat) : y / 2 ^ q = 0 ↔ y.testBit q = false ∧ y / 2 ^ (q + 1) = 0 := by
  rw [Nat.testBit_eq_decide_div_mod_eq, decide_eq_false_iff_not, Nat.pow_succ, ← Nat.div_div_eq_div_mul]
  omega
theorem clr_eq (X Z : BitVec 64) : ∀ (f q : Nat), 64 ≤ q + f → clr X Z f (q : Int) = decide ((X ||| Z).toNat / 2 ^ q = 0)
  | 0, q, h => by
    have h1 := (X ||| Z).isLt
    have h2 : 2 ^ 64 ≤ 2 ^ q := Nat.pow_le_pow_right (by omega) (by omega)
    rw [Nat.div_eq_of_lt (by omega)]; rfl
  | f + 1, q, h => by
    simp only [clr]
    by_cases hq : 64 ≤ q
    · have h1 := (X ||| Z).isLt
      have h2 : 2 ^ 64 ≤ 2 ^ q := Nat.pow_le_pow_right (by omega) hq
      rw [Nat.div_eq_of_lt (by omega)]
      have : decide ((64 : Int) ≤ (q : Int)) = true := by simp; omega
      rw [this]; rfl
    · have : decide ((64 : Int) ≤ (q : Int)) = false := by simp; omega
      have ih := clr_eq X Z f (q + 1) (by omega)
      rw [show (((q + 1 : Nat)) : Int) = (q : Int) + 1 from rfl] at ih
      rw [this, Bool.false_or, isOne_tb X q (by omega), isOne_tb Z q (by omega), ih, Bool.eq_iff_iff]
      simp only [Bool.and_eq_true, Bool.not_eq_true', decide_eq_true_eq]
      rw [half_zero (X ||| Z).toNat q, BitVec.toNat_or, Nat.testBit_or, Bool.or_eq_false_iff]
theorem okR_eq (p : Pl) (f : Nat) (hf : 64 ≤ f) : p.okR f = p.ok := by
  obtain ⟨N, X, Z, Ph⟩ := p
  unfold Pl.okR Pl.ok
  by_cases h1 : 0 ≤ N
  · by_cases h2 : N ≤ 64
    · obtain ⟨k, rfl⟩ : ∃ k : Nat, N = (k : Int) := ⟨N.toNat, by omega⟩
      have e := clr_eq X Z f k (by omega)
      simp only [e, Int.toNat_natCast]
      congr 1
      by_cases h3 : (k : Int) < 64
      · have : decide (¬ (k : Int) < 64) = false := by simp; omega
        rw [this, Bool.false_or]
        congr 1
        apply propext
        rw [← tn_shr]
        constructor
        · intro h; exact BitVec.eq_of_toNat_eq (by simpa using h)
        · intro h; rw [h]; rfl
      · have h4 : k = 64 := by omega
        subst h4
        have h5 := (X ||| Z).isLt
        rw [Nat.div_eq_of_lt h5]
        rfl
    · have : decide (N ≤ 64) = false := by simp; omega
      simp only [this, Bool.and_false, Bool.false_and]
  · have : decide (0 ≤ N) = false := by simp; omega
    simp only [this, Bool.false_and]
end Go.Proofs.YtogkkamlmklpkaaDoor.Ab
