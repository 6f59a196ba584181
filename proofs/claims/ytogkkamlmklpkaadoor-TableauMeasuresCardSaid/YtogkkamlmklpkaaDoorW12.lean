/- Plain law: the strings multiply as a group does: associative, commuting strings commute, an even string's square is nothing. No condition: lemmas only. -/
import Derived.Test.YtogkkamlmklpkaaDoorW11
set_option maxRecDepth 100000
set_option linter.unusedVariables false
set_option linter.unusedSimpArgs false
namespace Go.Proofs.YtogkkamlmklpkaaDoor.Ab
open Go
theorem pw_mod (a b c d : Nat) : pw a b c d = pw (a % 2) (b % 2) (c % 2) (d % 2) := by
  unfold pw
  simp only [Nat.mod_mod]
theorem xor_mod2 (a b : Nat) : (a ^^^ b) % 2 = (a % 2 ^^^ b % 2) % 2 := by
  have h1 := Nat.mod_two_eq_zero_or_one a
  have h2 := Nat.mod_two_eq_zero_or_one b
  have h3 : (a ^^^ b).testBit 0 = (a.testBit 0 ^^ b.testBit 0) := Nat.testBit_xor a b 0
  rw [Nat.testBit_zero, Nat.testBit_zero, Nat.testBit_zero] at h3
  have h4 := Nat.mod_two_eq_zero_or_one (a ^^^ b)
  rcases h1 with h1 | h1 <;> rcases h2 with h2 | h2 <;> rcases h4 with h4 | h4 <;> simp [h1, h2, h4] at h3 ⊢
theorem pw_assoc (a b c d e f : Nat) : (pw a b c d + pw (a ^^^ c) (b ^^^ d) e f) % 4 = (pw c d e f + pw a b (c ^^^ e) (d ^^^ f)) % 4 := by
  rw [pw_mod a b c d, pw_mod (a ^^^ c) (b ^^^ d) e f, pw_mod c d e f, pw_mod a b (c ^^^ e) (d ^^^ f), xor_mod2 a c, xor_mod2 b d, xor_mod2 c e, xor_mod2 d f]
  have h1 := Nat.mod_two_eq_zero_or_one a
  have h2 := Nat.mod_two_eq_zero_or_one b
  have h3 := Nat.mod_two_eq_zero_or_one c
  have h4 := Nat.mod_two_eq_zero_or_one d
  have h5 := Nat.mod_two_eq_zero_or_one e
  have h6 := Nat.mod_two_eq_zero_or_one f
  rcases h1 with h1 | h1 <;> rcases h2 with h2 | h2 <;> rcases h3 with h3 | h3 <;> rcases h4 with h4 | h4 <;> rcases h5 with h5 | h5 <;> rcases h6 with h6 | h6 <;> rw [h1, h2, h3, h4, h5, h6] <;> rfl
theorem ps_assoc : ∀ (k a b c d e f : Nat), (ps k a b c d + ps k (a ^^^ c) (b ^^^ d) e f) % 4 = (ps k c d e f + ps k a b (c ^^^ e) (d ^^^ f)) % 4
  | 0, _, _, _, _, _, _ => rfl
  | k + 1, a, b, c, d, e, f => by
    have h1 := pw_assoc a b c d e f
    have h2 := ps_assoc k (a / 2) (b / 2) (c / 2) (d / 2) (e / 2) (f / 2)
    simp only [ps, Nat.xor_div_two]
    omega
theorem mulP_assoc (p q r : Pl) : mulP (mulP p q) r = mulP p (mulP q r) := by
  have h := ps_assoc 64 p.X.toNat p.Z.toNat q.X.toNat q.Z.toNat r.X.toNat r.Z.toNat
  unfold mulP
  simp only [BitVec.toNat_xor, BitVec.xor_assoc, Pl.mk.injEq, true_and]
  generalize ps 64 p.X.toNat p.Z.toNat q.X.toNat q.Z.toNat = a at *
  generalize ps 64 (p.X.toNat ^^^ q.X.toNat) (p.Z.toNat ^^^ q.Z.toNat) r.X.toNat r.Z.toNat = b at *
  generalize ps 64 q.X.toNat q.Z.toNat r.X.toNat r.Z.toNat = c at *
  generalize ps 64 p.X.toNat p.Z.toNat (q.X.toNat ^^^ r.X.toNat) (q.Z.toNat ^^^ r.Z.toNat) = d at *
  omega
/-- Strings that do not part commute. -/
theorem mulP_comm {p q : Pl} (hn : p.N = q.N) (hc : part p q = false) : mulP p q = mulP q p := by
  have ho := ps_odd 64 p.X.toNat p.Z.toNat q.X.toNat q.Z.toNat p.X.isLt p.Z.isLt q.X.isLt q.Z.isLt
  have ht := ps_turn 64 p.X.toNat p.Z.toNat q.X.toNat q.Z.toNat
  unfold part om at hc
  rw [decide_eq_false_iff_not] at hc
  unfold mulP
  rw [hn, BitVec.xor_comm p.X, BitVec.xor_comm p.Z]
  simp only [Pl.mk.injEq, true_and]
  generalize ps 64 p.X.toNat p.Z.toNat q.X.toNat q.Z.toNat = a at *
  generalize ps 64 q.X.toNat q.Z.toNat p.X.toNat p.Z.toNat = b at *
  generalize popN ((p.X.toNat &&& q.Z.toNat) ^^^ (p.Z.toNat &&& q.X.toNat)) = c at *
  omega
theorem pw_self (a b : Nat) : pw a b a b = 0 := by unfold pw; rw [if_pos (.inr (.inr ⟨rfl, rfl⟩))]
theorem ps_self : ∀ (k a b : Nat), ps k a b a b = 0
  | 0, _, _ => rfl
  | k + 1, a, b => by simp only [ps, pw_self, ps_self k]
theorem ps_zero : ∀ (k a b : Nat), ps k 0 0 a b = 0
  | 0, _, _ => rfl
  | k + 1, a, b => by
    have : pw 0 0 a b = 0 := pw_zero _ _ _ _ (.inl ⟨rfl, rfl⟩)
    simp only [ps, this, Nat.zero_div, ps_zero k]
/-- An even string's square. -/
theorem mulP_self {p : Pl} (h : p.Ph % 2 = 0) : mulP p p = unit p.N := by
  unfold mulP unit
  rw [ps_self, BitVec.xor_self, BitVec.xor_self]
  simp only [Pl.mk.injEq, true_and]
  omega
theorem mulP_unit_l {p : Pl} (h1 : 0 ≤ p.Ph) (h2 : p.Ph ≤ 3) : mulP (unit p.N) p = p := by
  unfold mulP unit
  obtain ⟨N, X, Z, Ph⟩ := p
  simp only [show (0#64).toNat = 0 from rfl, ps_zero, BitVec.zero_xor, Pl.mk.injEq, true_and]
  simp only at h1 h2
  omega
end Go.Proofs.YtogkkamlmklpkaaDoor.Ab
