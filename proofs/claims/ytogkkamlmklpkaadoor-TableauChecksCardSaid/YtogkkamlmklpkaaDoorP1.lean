import Derived.Test.YtogkkamlmklpkaaDoorD4
namespace Go.Proofs.YtogkkamlmklpkaaDoor.Ab
def popN : Nat → Nat
  | 0 => 0
  | n + 1 => (n + 1) % 2 + popN ((n + 1) / 2)
theorem popN_eq (n : Nat) : popN n = n % 2 + popN (n / 2) := by
  cases n with
  | zero => simp [popN]
  | succ n => rw [popN]
theorem and_half (a b : Nat) : (a &&& b) / 2 = (a / 2) &&& (b / 2) := Nat.and_div_two
theorem and_mod (a b : Nat) : (a &&& b) % 2 = (a % 2) * (b % 2) := by
  have h1 := Nat.mod_two_eq_zero_or_one a
  have h2 := Nat.mod_two_eq_zero_or_one b
  have e : ∀ n : Nat, n.testBit 0 = decide (n % 2 = 1) := fun n => Nat.testBit_zero n
  have h3 : (a &&& b).testBit 0 = (a.testBit 0 && b.testBit 0) := Nat.testBit_and a b 0
  rw [e, e, e] at h3
  have h4 := Nat.mod_two_eq_zero_or_one (a &&& b)
  rcases h1 with h1 | h1 <;> rcases h2 with h2 | h2 <;> rcases h4 with h4 | h4 <;> simp [h1, h2, h4] at h3 ⊢
theorem pop_step : ∀ n : Nat, 0 < n → popN (n &&& (n - 1)) + 1 = popN n := by
  intro n
  induction n using Nat.strongRecOn with
  | _ n ih =>
    intro h
    rw [popN_eq (n &&& (n - 1)), popN_eq n, and_half, and_mod]
    rcases Nat.mod_two_eq_zero_or_one n with q | q
    · have e1 : (n - 1) / 2 = n / 2 - 1 := by omega
      have := ih (n / 2) (by omega) (by omega)
      rw [e1, q]; omega
    · have e1 : (n - 1) / 2 = n / 2 := by omega
      have e2 : (n - 1) % 2 = 0 := by omega
      rw [e1, e2, q, Nat.and_self]; omega
theorem popN_le : ∀ (k n : Nat), n < 2 ^ k → popN n ≤ k
  | 0, n, h => by
    have : n = 0 := by simpa using h
    subst this; simp [popN]
  | k + 1, n, h => by
    rw [popN_eq]
    have := popN_le k (n / 2) (by rw [Nat.pow_succ] at h; omega)
    omega
theorem popN_zero {n : Nat} (h : popN n = 0) : n = 0 := by
  rcases Nat.eq_zero_or_pos n with q | q
  · exact q
  · have := pop_step n q; omega
theorem kern_pop : ∀ (f : Nat) (c : Int) (x : BitVec 64), popN x.toNat ≤ f → kern f c x = some (c + popN x.toNat)
  | 0, c, x, h => by
    have hx : x.toNat = 0 := popN_zero (by omega)
    have : x = 0#64 := BitVec.eq_of_toNat_eq (by simpa using hx)
    subst this; simp [kern, popN]
  | f + 1, c, x, h => by
    simp only [kern]
    split
    · rename_i hx; subst hx; simp [popN]
    · rename_i hx
      have hpos : 0 < x.toNat := by
        rcases Nat.eq_zero_or_pos x.toNat with q | q
        · exact absurd (BitVec.eq_of_toNat_eq (by simpa using q)) hx
        · exact q
      have e : (x &&& (x - 1#64)).toNat = x.toNat &&& (x.toNat - 1) := by
        rw [BitVec.toNat_and, BitVec.toNat_sub]
        congr 1
        have := x.isLt
        simp only [BitVec.toNat_ofNat, Nat.reducePow, Nat.reduceMod]
        omega
      have ps := pop_step x.toNat hpos
      rw [kern_pop f (c + 1) _ (by rw [e]; omega), e]
      congr 1
      omega
end Go.Proofs.YtogkkamlmklpkaaDoor.Ab
