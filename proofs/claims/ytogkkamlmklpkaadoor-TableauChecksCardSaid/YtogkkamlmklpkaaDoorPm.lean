import Derived.Test.YtogkkamlmklpkaaDoorPl
set_option maxRecDepth 100000
set_option linter.unusedVariables false
set_option linter.unusedSimpArgs false
namespace Go.Proofs.YtogkkamlmklpkaaDoor.Ab
open Go
theorem tn_shr (x : BitVec 64) (k : Nat) : (x >>> k).toNat = x.toNat / 2 ^ k := by rw [BitVec.toNat_ushiftRight, Nat.shiftRight_eq_div_pow]
theorem tn_add {x y : BitVec 64} (h : x.toNat + y.toNat < 18446744073709551616) : (x + y).toNat = x.toNat + y.toNat := by
  rw [BitVec.toNat_add]; exact Nat.mod_eq_of_lt (by simpa using h)
theorem low1 : lowM 1 32 = 6148914691236517205 := by decide
theorem low2 : lowM 2 16 = 3689348814741910323 := by decide
theorem low4 : lowM 4 8 = 1085102592571150095 := by decide
theorem fsum_b (c b : Nat) : ∀ (k x : Nat), fle c b k x → fsum c k x ≤ k * b
  | 0, _, _ => Nat.zero_le _
  | k + 1, x, h => by
    have := fsum_b c b k _ h.2
    have h1 := h.1
    simp only [fsum]
    rw [Nat.succ_mul]; omega
/-- The program's count is the number of ones. -/
theorem ones_pop (x : BitVec 64) : ones x = (popN x.toNat : Int) := by
  have hx := x.isLt
  have n1 : (((x >>> 1) &&& 6148914691236517205#64) + (x &&& 6148914691236517205#64)).toNat = pairs 1 32 x.toNat := by
    rw [tn_add, BitVec.toNat_and, BitVec.toNat_and, tn_shr]
    · unfold pairs; rw [low1]; rfl
    · rw [BitVec.toNat_and, BitVec.toNat_and]
      have a := Nat.and_le_right (n := (x >>> 1).toNat) (m := (6148914691236517205#64).toNat)
      have b := Nat.and_le_right (n := x.toNat) (m := (6148914691236517205#64).toNat)
      simp only [BitVec.toNat_ofNat] at a b ⊢
      omega
  generalize hx1 : ((x >>> 1) &&& 6148914691236517205#64) + (x &&& 6148914691236517205#64) = x1 at n1
  have n2 : (((x1 >>> 2) &&& 3689348814741910323#64) + (x1 &&& 3689348814741910323#64)).toNat = pairs 2 16 x1.toNat := by
    rw [tn_add, BitVec.toNat_and, BitVec.toNat_and, tn_shr]
    · unfold pairs; rw [low2]; rfl
    · rw [BitVec.toNat_and, BitVec.toNat_and]
      have a := Nat.and_le_right (n := (x1 >>> 2).toNat) (m := (3689348814741910323#64).toNat)
      have b := Nat.and_le_right (n := x1.toNat) (m := (3689348814741910323#64).toNat)
      simp only [BitVec.toNat_ofNat] at a b ⊢
      omega
  generalize hx2 : ((x1 >>> 2) &&& 3689348814741910323#64) + (x1 &&& 3689348814741910323#64) = x2 at n2
  have f1 : fle 2 2 32 x1.toNat := by rw [n1]; exact fle_pairs 1 1 (by omega) 32 _ (fle_one 64 _)
  have f2 : fle 4 4 16 x2.toNat := by rw [n2]; exact fle_pairs 2 2 (by omega) 16 _ f1
  have t2 : x2.toNat ≤ 4919131752989213764 + 0 := by
    have h := f2
    simp only [fle, Nat.reducePow, and_true] at h
    omega
  have n3 : (((x2 >>> 4) + x2) &&& 1085102592571150095#64).toNat = pairs 4 8 x2.toNat := by
    rw [BitVec.toNat_and, tn_add, tn_shr]
    · have := add_mask 8 x2.toNat f2
      rw [low4] at this
      exact this
    · rw [tn_shr]; omega
  generalize hx3 : ((x2 >>> 4) + x2) &&& 1085102592571150095#64 = x3 at n3
  have f3 : fle 8 8 8 x3.toNat := by rw [n3]; exact fle_pairs 4 4 (by omega) 8 _ f2
  obtain ⟨b1, b2, b3, b4, b5⟩ := bytes_total x3.toNat f3 x3.isLt
  have s3 : fsum 8 8 x3.toNat = popN x.toNat := by
    rw [n3, pairs_fsum 4 (by omega) 8, n2, pairs_fsum 2 (by omega) 16, n1, pairs_fsum 1 (by omega) 32]
    exact fsum_one 64 _ (by simpa using hx)
  have m1 : (x3 + (x3 >>> 8)).toNat = x3.toNat + x3.toNat / 256 := by rw [tn_add, tn_shr]; rw [tn_shr]; exact b2
  have m2 : (x3 + (x3 >>> 8) + ((x3 + (x3 >>> 8)) >>> 16)).toNat = (x3.toNat + x3.toNat / 256) + (x3.toNat + x3.toNat / 256) / 65536 := by
    rw [tn_add, tn_shr, m1]; rw [tn_shr, m1]; exact b3
  have m3 : (swar x).toNat = (x3.toNat + x3.toNat / 256) + (x3.toNat + x3.toNat / 256) / 65536 + ((x3.toNat + x3.toNat / 256) + (x3.toNat + x3.toNat / 256) / 65536) / 4294967296 := by
    unfold swar
    simp only [hx1, hx2, hx3]
    rw [tn_add, tn_shr, m2]; rw [tn_shr, m2]; exact b4
  unfold ones bitop
  have e1 : ((swar x).toInt % 2 ^ IntKind.i64.bits).toNat = (swar x).toNat := by
    have hb : (2 : Int) ^ IntKind.i64.bits = 18446744073709551616 := by decide
    have hl := (swar x).isLt
    rw [hb, BitVec.toInt_eq_toNat_cond]
    split <;> omega
  have e2 : ((127 : Int) % 2 ^ IntKind.i64.bits).toNat = 2 ^ 7 - 1 := by decide
  simp only [e1, e2]
  rw [Nat.and_two_pow_sub_one_eq_mod, m3]
  rw [show (2 : Nat) ^ 7 = 128 from rfl, b1, s3]
  exact wrap_of ⟨by omega, by omega⟩
theorem pop_xor : ∀ (n a b : Nat), a < 2 ^ n → b < 2 ^ n → popN (a ^^^ b) % 2 = (popN a + popN b) % 2
  | 0, a, b, ha, hb => by
    have : a = 0 := by simpa using ha
    have : b = 0 := by simpa using hb
    subst a b; simp [popN]
  | n + 1, a, b, ha, hb => by
    rw [Nat.pow_succ] at ha hb
    have ih := pop_xor n (a / 2) (b / 2) (by omega) (by omega)
    have hd : (a ^^^ b) / 2 = a / 2 ^^^ b / 2 := Nat.xor_div_two
    have hm : (a ^^^ b) % 2 = (a % 2 + b % 2) % 2 := by
      have h1 := Nat.mod_two_eq_zero_or_one a
      have h2 := Nat.mod_two_eq_zero_or_one b
      have h4 := Nat.mod_two_eq_zero_or_one (a ^^^ b)
      have h3 : (a ^^^ b).testBit 0 = (a.testBit 0 ^^ b.testBit 0) := Nat.testBit_xor a b 0
      rw [Nat.testBit_zero, Nat.testBit_zero, Nat.testBit_zero] at h3
      rcases h1 with h1 | h1 <;> rcases h2 with h2 | h2 <;> rcases h4 with h4 | h4 <;> simp [h1, h2, h4] at h3 ⊢
    rw [popN_eq (a ^^^ b), popN_eq a, popN_eq b, hd, hm]
    omega
theorem cm_eq (p q : Pl) : cm p q = cmR p q := by
  unfold cm cmR
  have l1 := popN_64 (p.X &&& q.Z)
  have l2 := popN_64 (p.Z &&& q.X)
  rw [ones_pop, ones_pop, wrap_of ⟨by omega, by omega⟩, BitVec.toNat_xor]
  have hx := pop_xor 64 (p.X &&& q.Z).toNat (p.Z &&& q.X).toNat (p.X &&& q.Z).isLt (p.Z &&& q.X).isLt
  generalize popN ((p.X &&& q.Z).toNat ^^^ (p.Z &&& q.X).toNat) = a at *
  generalize popN (p.X &&& q.Z).toNat = b at *
  generalize popN (p.Z &&& q.X).toNat = c at *
  congr 1
  rw [← Int.natCast_add, Int.tmod_eq_emod_of_nonneg (by omega), Int.tmod_eq_emod_of_nonneg (by omega)]
  apply propext
  omega
end Go.Proofs.YtogkkamlmklpkaaDoor.Ab
