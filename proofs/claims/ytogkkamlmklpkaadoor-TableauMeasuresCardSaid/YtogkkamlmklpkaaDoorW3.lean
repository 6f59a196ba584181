/- Plain law: the reference's word on a tableau is the program's. No condition: lemmas only. -/
import Derived.Test.YtogkkamlmklpkaaDoorW2
set_option maxRecDepth 100000
set_option linter.unusedVariables false
set_option linter.unusedSimpArgs false
namespace Go.Proofs.YtogkkamlmklpkaaDoor.Ab
open Go
theorem one_R (N : Int) (p : Pl) : one N p = (p.ok && (decide (p.N = N) && !decide (p.Ph.tmod 2 = 1))) := by
  unfold one Pl.herm
  cases h : p.ok with
  | false => simp
  | true =>
    obtain ⟨_, _, h3, _⟩ := Pl.ok_ph h
    rw [Int.tmod_eq_emod_of_nonneg h3]
    have : (!decide (p.Ph % 2 = 1)) = decide (p.Ph % 2 = 0) := by
      rw [← decide_not]; congr 1; apply propext; omega
    rw [this]; simp
theorem RR0 (N v3 : Int) (S D : List Pl) (i : Nat) (h1 : i < S.length) (h2 : i < D.length) : ∀ F, 65 ≤ F → Pref14_RightL0 F N (i : Int) v3 S D F 0 = some (bif one N S[i] && one N D[i] then .inr () else .inl ()) := fun F hF => by
  obtain ⟨f, hf⟩ : ∃ f, F = f + 3 := ⟨F - 3, by omega⟩
  have w1 : IntKind.i64.wrap (0 + 1) = 1 := rfl
  have w2 : IntKind.i64.wrap (1 + 1) = 2 := rfl
  have s1 : ∀ k, Pref14_RightL0 F N (i : Int) v3 S D (k + 1) 2 = some (.inr ()) := fun k => by unfold Pref14_RightL0; rfl
  have s2 : Pref14_RightL0 F N (i : Int) v3 S D (f + 2) 1 = some (bif one N D[i] then .inr () else .inl ()) := by
    unfold Pref14_RightL0
    rw [idx_lt h1, idx_lt h2]
    simp only [R_right F hF, one_R, w2, s1]
    rw [if_pos (by decide)]
    cases D[i].ok
    · rfl
    · by_cases e1 : D[i].N = N
      · by_cases e2 : D[i].Ph.tmod 2 = 1
        · simp [e1, e2]
        · simp [e1, e2]
      · simp [e1]
  rw [show Pref14_RightL0 F N (i : Int) v3 S D F 0 = Pref14_RightL0 F N (i : Int) v3 S D (f + 3) 0 by rw [← hf]]
  unfold Pref14_RightL0
  rw [idx_lt h1]
  simp only [R_right F hF, w1, s2]
  rw [one_R N S[i], if_pos (by decide)]
  cases S[i].ok
  · rfl
  · by_cases e1 : S[i].N = N
    · by_cases e2 : S[i].Ph.tmod 2 = 1
      · simp [e1, e2]
      · simp [e1, e2]
    · simp [e1]
theorem RR1 (F : Nat) (hF : 65 ≤ F) (N : Int) (S D : List Pl) (n : Nat) (hn : n < 1000) (hN : N = n) (hS : S.length = n) (hD : D.length = n) : ∀ (f m i : Nat), i + m = n → m < f → Pref14_RightL1 F N N S D f (i : Int) = some (bif allFrom (oneAt N S D) m i then .inr () else .inl ())
  | 0, m, i, _, h => by omega
  | f + 1, m, i, e, h => by
    unfold Pref14_RightL1
    cases m with
    | zero => rw [if_neg (by omega)]; rfl
    | succ m =>
      have i1 : i < S.length := by omega
      have i2 : i < D.length := by omega
      rw [if_pos (by omega), RR0 N N S D i i1 i2 F hF]
      have ih := RR1 F hF N S D n hn hN hS hD f m (i + 1) (by omega) (by omega)
      have o : oneAt N S D i = (one N S[i] && one N D[i]) := by unfold oneAt; rw [List.getElem?_eq_getElem i1, List.getElem?_eq_getElem i2]
      rw [allFrom, o]
      cases one N S[i] && one N D[i] with
      | false => rfl
      | true => simp only [cond_true]; rw [wrap_id ⟨by omega, by omega⟩]; simpa using ih
theorem RR2 (F : Nat) (hF : 65 ≤ F) (N : Int) (S D : List Pl) (n : Nat) (hn : n < 1000) (hN : N = n) (hS : S.length = n) (hD : D.length = n) (i : Nat) (hi : i < n) : ∀ (f m j : Nat), j + m = n → m < f → Pref14_RightL2 F N (i : Int) N S D f (j : Int) = some (bif allFrom (two S D i) m j then .inr () else .inl ())
  | 0, m, j, _, h => by omega
  | f + 1, m, j, e, h => by
    unfold Pref14_RightL2
    cases m with
    | zero => rw [if_neg (by omega)]; rfl
    | succ m =>
      have i1 : i < S.length := by omega
      have i2 : i < D.length := by omega
      have i3 : j < S.length := by omega
      have i4 : j < D.length := by omega
      rw [if_pos (by omega), idx_lt i1, idx_lt i2, idx_lt i3, idx_lt i4]
      simp only [R_commute F hF]
      have ih := RR2 F hF N S D n hn hN hS hD i hi f m (j + 1) (by omega) (by omega)
      have o : two S D i j = (!part S[i] S[j] && !part D[i] D[j] && (part D[i] S[j] == decide (i = j))) := by unfold two; rw [List.getElem?_eq_getElem i1, List.getElem?_eq_getElem i2, List.getElem?_eq_getElem i3, List.getElem?_eq_getElem i4]
      rw [allFrom, o, wrap_id ⟨by omega, by omega⟩]
      rw [show ((j + 1 : Nat) : Int) = (j : Int) + 1 by omega] at ih
      rw [ih]
      by_cases q : i = j
      · have q' : (i : Int) = (j : Int) := by omega
        simp only [if_pos q', decide_eq_true q]
        cases part S[i] S[j] <;> cases part D[i] D[j] <;> cases part D[i] S[j] <;> rfl
      · have q' : ¬ (i : Int) = (j : Int) := by omega
        simp only [if_neg q', decide_eq_false q]
        cases part S[i] S[j] <;> cases part D[i] D[j] <;> cases part D[i] S[j] <;> rfl
theorem RR3 (F : Nat) (hF : 66 ≤ F) (N : Int) (S D : List Pl) (n : Nat) (hn : n ≤ 64) (hN : N = n) (hS : S.length = n) (hD : D.length = n) : ∀ (f m i : Nat), i + m = n → m < f → Pref14_RightL3 F N N S D f (i : Int) = some (bif allFrom (fun i => allFrom (two S D i) n 0) m i then .inr () else .inl ())
  | 0, m, i, _, h => by omega
  | f + 1, m, i, e, h => by
    unfold Pref14_RightL3
    cases m with
    | zero => rw [if_neg (by omega)]; rfl
    | succ m =>
      have := RR2 F (by omega) N S D n (by omega) hN hS hD i (by omega) F n 0 (by omega) (by omega)
      rw [if_pos (by omega)]
      have ih := RR3 F hF N S D n hn hN hS hD f m (i + 1) (by omega) (by omega)
      rw [show ((i + 1 : Nat) : Int) = (i : Int) + 1 by omega] at ih
      rw [allFrom, wrap_id ⟨by omega, by omega⟩, ih]
      rw [show ((0 : Nat) : Int) = 0 from rfl] at this
      rw [this]
      cases allFrom (two S D i) n 0 <;> rfl
theorem R_Right (F : Nat) (hF : 66 ≤ F) (N : Int) (S D : List Pl) : Pref14_Right F N S D = some (chk N S D) := by
  unfold Pref14_Right chk
  by_cases h1 : N < 0
  · rw [if_pos h1, decide_eq_false (by omega : ¬ 0 ≤ N)]; rfl
  · rw [if_neg h1, decide_eq_true (by omega : 0 ≤ N)]
    by_cases h2 : N > 64
    · rw [if_pos h2, decide_eq_false (by omega : ¬ N ≤ 64)]; rfl
    · rw [if_neg h2, decide_eq_true (by omega : N ≤ 64)]
      by_cases h3 : (S.length : Int) = N
      · rw [if_pos h3, decide_eq_true h3]
        by_cases h4 : (D.length : Int) = N
        · rw [if_pos h4, decide_eq_true h4]
          obtain ⟨n, rfl⟩ : ∃ n : Nat, N = (n : Int) := ⟨N.toNat, by omega⟩
          have c1 := RR1 F (by omega) n S D n (by omega) rfl (by omega) (by omega) F n 0 (by omega) (by omega)
          have c3 := RR3 F (by omega) n S D n (by omega) rfl (by omega) (by omega) F n 0 (by omega) (by omega)
          rw [show ((0 : Nat) : Int) = 0 from rfl] at c1 c3
          rw [c1, c3, Int.toNat_natCast]
          cases allFrom (oneAt n S D) n 0 <;> cases allFrom (fun i => allFrom (two S D i) n 0) n 0 <;> rfl
        · rw [if_neg h4, decide_eq_false h4]; rfl
      · rw [if_neg h3, decide_eq_false h3]; rfl
end Go.Proofs.YtogkkamlmklpkaaDoor.Ab
