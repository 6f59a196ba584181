import Derived.Test.YtogkkamlmklpkaaDoorPm
set_option maxRecDepth 100000
set_option linter.unusedVariables false
set_option linter.unusedSimpArgs false
namespace Go.Proofs.YtogkkamlmklpkaaDoor.Ab
open Go
theorem isOne_tb (x : BitVec 64) (q : Nat) (hq : q < 64) : isOne x (q : Int) = x.toNat.testBit q := by
  have hk : (BitVec.ofInt 64 (q : Int)).toNat = q := by simp; omega
  have hn : (bitAt x q).toNat = x.toNat / 2 ^ q % 2 := by
    unfold bitAt
    rw [hk, BitVec.toNat_and, tn_shr]
    exact Nat.and_one_is_mod _
  have h2 : x.toNat / 2 ^ q % 2 < 2 := Nat.mod_lt _ (by decide)
  unfold isOne
  rw [Nat.testBit_eq_decide_div_mod_eq]
  have hi : (bitAt x q).toInt = ((bitAt x q).toNat : Int) := BitVec.toInt_eq_toNat_of_lt (by rw [hn]; omega)
  rw [hi, hn]
  congr 1
  apply propext
  omega
theorem half_zero (y q : Nat) : y / 2 ^ q = 0 ↔ y.testBit q = false ∧ y / 2 ^ (q + 1) = 0 := by
  rw [Nat.testBit_eq_decide_div_mod_eq, decide_eq_false_iff_not, Nat.pow_succ, ← Nat.div_div_eq_div_mul]
  omega
theorem clr_eq (X Z : BitVec 64) : ∀ (f q : Nat), 64 ≤ q + f → clr X Z f (q : Int) = decide ((X ||| Z).toNat / 2 ^ q = 0)
  | 0, q, h => by
    have h1 := (X ||| Z).isLt
    have h2 : 2 ^ 64 ≤ 2 ^ q := Nat.pow_le_pow_right (by omega) (by omega)
    rw [Nat.div_eq_of_lt (by omega)]; rfl
  | f + 1, q, h => by
    simp only [clr]
    by_cases hq : 64 ≤ q
    · have h1 := (X ||| Z).isLt
      have h2 : 2 ^ 64 ≤ 2 ^ q := Nat.pow_le_pow_right (by omega) hq
      rw [Nat.div_eq_of_lt (by omega)]
      have : decide ((64 : Int) ≤ (q : Int)) = true := by simp; omega
      rw [this]; rfl
    · have : decide ((64 : Int) ≤ (q : Int)) = false := by simp; omega
      have ih := clr_eq X Z f (q + 1) (by omega)
      rw [show (((q + 1 : Nat)) : Int) = (q : Int) + 1 from rfl] at ih
      rw [this, Bool.false_or, isOne_tb X q (by omega), isOne_tb Z q (by omega), ih, Bool.eq_iff_iff]
      simp only [Bool.and_eq_true, Bool.not_eq_true', decide_eq_true_eq]
      rw [half_zero (X ||| Z).toNat q, BitVec.toNat_or, Nat.testBit_or, Bool.or_eq_false_iff]
theorem okR_eq (p : Pl) (f : Nat) (hf : 64 ≤ f) : p.okR f = p.ok := by
  obtain ⟨N, X, Z, Ph⟩ := p
  unfold Pl.okR Pl.ok
  by_cases h1 : 0 ≤ N
  · by_cases h2 : N ≤ 64
    · obtain ⟨k, rfl⟩ : ∃ k : Nat, N = (k : Int) := ⟨N.toNat, by omega⟩
      have e := clr_eq X Z f k (by omega)
      simp only [e, Int.toNat_natCast]
      congr 1
      by_cases h3 : (k : Int) < 64
      · have : decide (¬ (k : Int) < 64) = false := by simp; omega
        rw [this, Bool.false_or]
        congr 1
        apply propext
        rw [← tn_shr]
        constructor
        · intro h; exact BitVec.eq_of_toNat_eq (by simpa using h)
        · intro h; rw [h]; rfl
      · have h4 : k = 64 := by omega
        subst h4
        have h5 := (X ||| Z).isLt
        rw [Nat.div_eq_of_lt h5]
        rfl
    · have : decide (N ≤ 64) = false := by simp; omega
      simp only [this, Bool.and_false, Bool.false_and]
  · have : decide (0 ≤ N) = false := by simp; omega
    simp only [this, Bool.false_and]
theorem good_eq (p : Pl) (f : Nat) (hf : 64 ≤ f) (N : Int) : p.goodR f N = p.good N := by
  unfold Pl.goodR Pl.good
  rw [okR_eq p f hf]
  cases h : p.ok with
  | false => simp
  | true =>
    unfold Pl.ok at h
    simp only [Bool.and_eq_true, decide_eq_true_eq] at h
    obtain ⟨⟨⟨⟨_, _⟩, h3⟩, h4⟩, _⟩ := h
    have : (!decide (p.Ph.tmod 2 = 1)) = decide (p.Ph.tmod 2 = 0) := by
      rw [Int.tmod_eq_emod_of_nonneg h3, Bool.eq_iff_iff]
      simp only [Bool.not_eq_true', decide_eq_false_iff_not, decide_eq_true_eq]
      omega
    rw [this]; simp
theorem allFrom_congr {P Q : Nat → Bool} (h : ∀ i, P i = Q i) : ∀ m j, allFrom P m j = allFrom Q m j
  | 0, _ => rfl
  | m + 1, j => by simp only [allFrom, h j, allFrom_congr h m (j + 1)]
/-- The reference's word on a tableau is the program's. -/
theorem right_chk (t : Tb) (f : Nat) (hf : 64 ≤ f) : t.right f = t.chk := by
  unfold Tb.right Tb.chk
  congr 1
  congr 1
  · apply allFrom_congr
    intro i
    unfold Tb.goodRAt Tb.goodAt
    split
    · rw [good_eq _ _ hf, good_eq _ _ hf]; rename_i e1 e2; simp only [e1, e2]
    · rename_i h
      split
      · rename_i a b e1 e2; exact absurd e2 (by intro e; exact h _ _ e1 e)
      · rfl
  · apply allFrom_congr
    intro i
    apply allFrom_congr
    intro j
    unfold Tb.pairR Tb.pair
    cases t.S[i]? <;> cases t.S[j]? <;> cases t.D[i]? <;> cases t.D[j]? <;> try rfl
    simp only [cm_eq]
    congr 1
    by_cases h : (i : Int) = (j : Int)
    · simp [h]
    · simp [h]
end Go.Proofs.YtogkkamlmklpkaaDoor.Ab
