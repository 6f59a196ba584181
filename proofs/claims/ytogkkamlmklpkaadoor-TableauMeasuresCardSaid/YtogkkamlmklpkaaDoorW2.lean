/- Plain law: what the single functions on strings come to. No condition: lemmas only. -/
import Derived.Test.YtogkkamlmklpkaaDoorMu
set_option maxRecDepth 100000
set_option linter.unusedVariables false
set_option linter.unusedSimpArgs false
namespace Go.Proofs.YtogkkamlmklpkaaDoor.Ab
open Go
theorem wrap_id {n : Int} (h : -9223372036854775808 ≤ n ∧ n < 9223372036854775808) : IntKind.i64.wrap n = n := wrap_of ⟨by omega, by omega⟩
theorem popN_64 (x : BitVec 64) : popN x.toNat ≤ 64 := popN_le 64 _ (by have := x.isLt; simpa using this)
theorem P_ones (x : BitVec 64) : Pbits_OnesCount64 x = (popN x.toNat : Int) := by
  rw [← ones_pop]; rfl
/-- Do two strings part? -/
def part (p q : Pl) : Bool := om p.X.toNat p.Z.toNat q.X.toNat q.Z.toNat
theorem P_commute (p q : Pl) : Ptableau_commute p.N p.X p.Z p.Ph q.N q.X q.Z q.Ph = !part p q := by
  unfold Ptableau_commute part om
  have l1 := popN_64 (p.X &&& q.Z)
  have l2 := popN_64 (p.Z &&& q.X)
  rw [P_ones, P_ones, wrap_id ⟨by omega, by omega⟩]
  have hx := pop_xor 64 (p.X &&& q.Z).toNat (p.Z &&& q.X).toNat (p.X &&& q.Z).isLt (p.Z &&& q.X).isLt
  rw [BitVec.toNat_and, BitVec.toNat_and] at *
  generalize popN ((p.X.toNat &&& q.Z.toNat) ^^^ (p.Z.toNat &&& q.X.toNat)) = a at *
  generalize popN (p.X.toNat &&& q.Z.toNat) = b at *
  generalize popN (p.Z.toNat &&& q.X.toNat) = c at *
  rw [← Int.natCast_add, Int.tmod_eq_emod_of_nonneg (by omega), ← decide_not]
  congr 1
  apply propext
  omega
theorem kernL : ∀ (f : Nat) (c : Int) (x : BitVec 64), popN x.toNat < f → 0 ≤ c → c + popN x.toNat < 9223372036854775808 → Pref14_commuteL0 f c x = some (c + popN x.toNat)
  | 0, c, x, h, _, _ => by omega
  | f + 1, c, x, h, h0, h1 => by
    simp only [Pref14_commuteL0]
    split
    · rename_i hx; subst hx; simp [popN]
    · rename_i hx
      have hpos : 0 < x.toNat := by
        rcases Nat.eq_zero_or_pos x.toNat with q | q
        · exact absurd (BitVec.eq_of_toNat_eq (by simpa using q)) hx
        · exact q
      have e : (x &&& (x - 1#64)).toNat = x.toNat &&& (x.toNat - 1) := by
        rw [BitVec.toNat_and, BitVec.toNat_sub]
        congr 1
        have := x.isLt
        simp only [BitVec.toNat_ofNat, Nat.reducePow, Nat.reduceMod]
        omega
      have ps := pop_step x.toNat hpos
      rw [wrap_id ⟨by omega, by omega⟩, kernL f (c + 1) _ (by rw [e]; omega) (by omega) (by rw [e]; omega), e]
      congr 1
      omega
theorem R_commute (F : Nat) (hF : 65 ≤ F) (p q : Pl) : Pref14_commute F p.N p.X p.Z p.Ph q.N q.X q.Z q.Ph = some (!part p q) := by
  unfold Pref14_commute part om
  have l1 := popN_64 ((p.X &&& q.Z) ^^^ (p.Z &&& q.X))
  rw [kernL F 0 _ (by omega) (by omega) (by omega)]
  simp only [Int.zero_add, Option.some.injEq]
  rw [BitVec.toNat_xor, BitVec.toNat_and, BitVec.toNat_and, Int.tmod_eq_emod_of_nonneg (by omega), ← decide_not]
  congr 1
  apply propext
  omega
theorem P_check (p : Pl) : Ppauli_Check p.N p.X p.Z p.Ph = if p.ok = true then 0 else 130 := by
  unfold Ppauli_Check Pl.ok
  by_cases h1 : p.N < 0
  · rw [if_pos h1, decide_eq_false (by omega : ¬ 0 ≤ p.N)]; rfl
  · rw [if_neg h1, decide_eq_true (by omega : 0 ≤ p.N)]
    by_cases h2 : p.N > 64
    · rw [if_pos h2, decide_eq_false (by omega : ¬ p.N ≤ 64)]; rfl
    · rw [if_neg h2, decide_eq_true (by omega : p.N ≤ 64)]
      by_cases h3 : p.Ph < 0
      · rw [if_pos h3, decide_eq_false (by omega : ¬ 0 ≤ p.Ph)]; rfl
      · rw [if_neg h3, decide_eq_true (by omega : 0 ≤ p.Ph)]
        by_cases h4 : p.Ph > 3
        · rw [if_pos h4, decide_eq_false (by omega : ¬ p.Ph ≤ 3)]; rfl
        · rw [if_neg h4, decide_eq_true (by omega : p.Ph ≤ 3)]
          by_cases h5 : p.N < 64
          · rw [if_pos h5, decide_eq_false (by omega : ¬ ¬ p.N < 64)]
            by_cases h6 : (p.X ||| p.Z) >>> p.N.toNat = 0#64
            · rw [if_pos h6, decide_eq_true h6]; rfl
            · rw [if_neg h6, decide_eq_false h6]; rfl
          · rw [if_neg h5, decide_eq_true h5]; rfl
theorem P_right (p : Pl) : Ppauli_right p.N p.X p.Z p.Ph = p.ok := by
  unfold Ppauli_right
  rw [P_check]
  cases p.ok <;> rfl
/-- In order, and its square is one. -/
def Pl.herm (p : Pl) : Bool := p.ok && decide (p.Ph % 2 = 0)
theorem Pl.ok_ph {p : Pl} (h : p.ok = true) : 0 ≤ p.N ∧ p.N ≤ 64 ∧ 0 ≤ p.Ph ∧ p.Ph ≤ 3 := by
  unfold Pl.ok at h
  simp only [Bool.and_eq_true, decide_eq_true_eq] at h
  obtain ⟨⟨⟨⟨h1, h2⟩, h3⟩, h4⟩, _⟩ := h
  exact ⟨h1, h2, h3, h4⟩
theorem P_herm (p : Pl) : Ppauli_Hermitian p.N p.X p.Z p.Ph = p.herm := by
  unfold Ppauli_Hermitian Pl.herm
  rw [P_right]
  cases h : p.ok with
  | false => rfl
  | true =>
    obtain ⟨_, _, h3, h4⟩ := Pl.ok_ph h
    rw [cond_true, Bool.true_and, Int.tmod_eq_emod_of_nonneg h3]
theorem R_bit (x : BitVec 64) (q : Int) : Pref13_bit x q = (bitAt x q).toInt := rfl
theorem clrL (N Ph : Int) (X Z : BitVec 64) : ∀ (f : Nat) (q : Int), 0 ≤ q → q ≤ 64 → 65 ≤ q + f → Pref13_RightL0 N X Z Ph f q = some (bif clr X Z f q then .inr () else .inl ())
  | 0, q, h0, h1, h => by omega
  | f + 1, q, h0, hl, h => by
    simp only [Pref13_RightL0, clr]
    by_cases hq : q < 64
    · rw [if_pos hq, decide_eq_false (by omega : ¬ 64 ≤ q), Bool.false_or]
      rw [R_bit, R_bit]
      unfold isOne
      by_cases h1 : (bitAt X q).toInt = 1
      · rw [if_pos h1, decide_eq_true h1]; rfl
      · rw [if_neg h1, decide_eq_false h1]
        by_cases h2 : (bitAt Z q).toInt = 1
        · rw [if_pos h2, decide_eq_true h2]; rfl
        · rw [if_neg h2, decide_eq_false h2, wrap_id ⟨by omega, by omega⟩, clrL N Ph X Z f (q + 1) (by omega) (by omega) (by omega)]
          rfl
    · rw [if_neg hq, decide_eq_true (by omega : 64 ≤ q)]; rfl
theorem R_right (F : Nat) (hF : 65 ≤ F) (p : Pl) : Pref13_Right F p.N p.X p.Z p.Ph = some p.ok := by
  rw [← okR_eq p F (by omega)]
  unfold Pref13_Right Pl.okR
  by_cases h1 : p.N < 0
  · rw [if_pos h1, decide_eq_false (by omega : ¬ 0 ≤ p.N)]; rfl
  · rw [if_neg h1, decide_eq_true (by omega : 0 ≤ p.N)]
    by_cases h2 : p.N > 64
    · rw [if_pos h2, decide_eq_false (by omega : ¬ p.N ≤ 64)]; rfl
    · rw [if_neg h2, decide_eq_true (by omega : p.N ≤ 64)]
      by_cases h3 : p.Ph < 0
      · rw [if_pos h3, decide_eq_false (by omega : ¬ 0 ≤ p.Ph)]; rfl
      · rw [if_neg h3, decide_eq_true (by omega : 0 ≤ p.Ph)]
        by_cases h4 : p.Ph > 3
        · rw [if_pos h4, decide_eq_false (by omega : ¬ p.Ph ≤ 3)]; rfl
        · rw [if_neg h4, decide_eq_true (by omega : p.Ph ≤ 3), clrL _ _ _ _ _ _ (by omega) (by omega) (by omega)]
          cases clr p.X p.Z F p.N <;> rfl
/-! ### A tableau in order -/
/-- What is asked of the i-th strings alone. -/
def one (N : Int) (p : Pl) : Bool := decide (p.N = N) && p.herm
def allFrom (P : Nat → Bool) : Nat → Nat → Bool
  | 0, _ => true
  | m + 1, j => P j && allFrom P m (j + 1)
theorem allFrom_iff {P : Nat → Bool} : ∀ {m j : Nat}, allFrom P m j = true ↔ ∀ k, j ≤ k → k < j + m → P k = true
  | 0, j => ⟨fun _ k h1 h2 => by omega, fun _ => rfl⟩
  | m + 1, j => by
    simp only [allFrom, Bool.and_eq_true, allFrom_iff (m := m) (j := j + 1)]
    refine ⟨fun ⟨a, b⟩ k h1 h2 => ?_, fun h => ⟨h j (by omega) (by omega), fun k h1 h2 => h k (by omega) (by omega)⟩⟩
    by_cases e : k = j
    · subst e; exact a
    · exact b k (by omega) (by omega)
/-- What is asked of two places. -/
def two (S D : List Pl) (i j : Nat) : Bool := match S[i]?, S[j]?, D[i]?, D[j]? with
  | some a, some b, some c, some e => !part a b && !part c e && (part c b == decide (i = j))
  | _, _, _, _ => false
def oneAt (N : Int) (S D : List Pl) (i : Nat) : Bool := match S[i]?, D[i]? with
  | some p, some q => one N p && one N q
  | _, _ => false
/-- The tableau is in order. -/
def chk (N : Int) (S D : List Pl) : Bool := decide (0 ≤ N) && decide (N ≤ 64) && decide ((S.length : Int) = N) && decide ((D.length : Int) = N) &&
  (allFrom (oneAt N S D) N.toNat 0 && allFrom (fun i => allFrom (two S D i) N.toNat 0) N.toNat 0)
theorem idx_lt {l : List Pl} {i : Nat} (h : i < l.length) : idx l (i : Int) = some l[i] := by rw [idx_nat, List.getElem?_eq_getElem h]
theorem PC0 (v0 v1 N : Int) (S D : List Pl) (p q : Pl) : ∀ F, 3 ≤ F → Ptableau_CheckL0 v0 v1 2 N S D p.N p.X p.Z p.Ph q.N q.X q.Z q.Ph F 0 = some (bif one N p && one N q then .inr () else .inl ())
  | F + 3, _ => by
    have w1 : IntKind.i64.wrap (0 + 1) = 1 := rfl
    have w2 : IntKind.i64.wrap (1 + 1) = 2 := rfl
    simp only [Ptableau_CheckL0, P_herm, one, w1, w2]
    by_cases h1 : p.N = N
    · by_cases h2 : q.N = N
      · cases p.herm <;> cases q.herm <;> simp [h1, h2]
      · cases p.herm <;> simp [h1, h2]
    · simp [h1]
theorem PC1 (F : Nat) (hF : 3 ≤ F) (N : Int) (S D : List Pl) (n : Nat) (hn : n < 1000) (hN : N = n) (hS : S.length = n) (hD : D.length = n) : ∀ (f m i : Nat), i + m = n → m < f → Ptableau_CheckL1 F N N S D f (i : Int) = some (bif allFrom (oneAt N S D) m i then .inr () else .inl ())
  | 0, m, i, _, h => by omega
  | f + 1, m, i, e, h => by
    unfold Ptableau_CheckL1
    cases m with
    | zero => rw [if_neg (by omega)]; rfl
    | succ m =>
      have i1 : i < S.length := by omega
      have i2 : i < D.length := by omega
      rw [if_pos (by omega), idx_lt i1, idx_lt i2]
      simp only [PC0 _ _ _ _ _ _ _ F hF]
      have ih := PC1 F hF N S D n hn hN hS hD f m (i + 1) (by omega) (by omega)
      have o : oneAt N S D i = (one N S[i] && one N D[i]) := by unfold oneAt; rw [List.getElem?_eq_getElem i1, List.getElem?_eq_getElem i2]
      rw [allFrom, o]
      cases one N S[i] && one N D[i] with
      | false => rfl
      | true => rw [cond_true, wrap_id ⟨by omega, by omega⟩]; simpa using ih
theorem PC2 (N : Int) (S D : List Pl) (n : Nat) (hn : n < 1000) (hN : N = n) (hS : S.length = n) (hD : D.length = n) (v1 v2 : Int) (i : Nat) (hi : i < n) : ∀ (f m j : Nat), j + m = n → m < f → Ptableau_CheckL2 (i : Int) v1 v2 N N S D f (j : Int) = some (bif allFrom (two S D i) m j then .inr () else .inl ())
  | 0, m, j, _, h => by omega
  | f + 1, m, j, e, h => by
    unfold Ptableau_CheckL2
    cases m with
    | zero => rw [if_neg (by omega)]; rfl
    | succ m =>
      have i1 : i < S.length := by omega
      have i2 : i < D.length := by omega
      have i3 : j < S.length := by omega
      have i4 : j < D.length := by omega
      rw [if_pos (by omega), idx_lt i1, idx_lt i2, idx_lt i3, idx_lt i4]
      simp only [P_commute]
      have ih := PC2 N S D n hn hN hS hD v1 v2 i hi f m (j + 1) (by omega) (by omega)
      have o : two S D i j = (!part S[i] S[j] && !part D[i] D[j] && (part D[i] S[j] == decide (i = j))) := by unfold two; rw [List.getElem?_eq_getElem i1, List.getElem?_eq_getElem i2, List.getElem?_eq_getElem i3, List.getElem?_eq_getElem i4]
      rw [allFrom, o, wrap_id ⟨by omega, by omega⟩]
      rw [show ((j + 1 : Nat) : Int) = (j : Int) + 1 by omega] at ih
      rw [ih]
      by_cases q : i = j
      · have q' : (i : Int) = (j : Int) := by omega
        simp only [if_pos q', decide_eq_true q]
        cases part S[i] S[j] <;> cases part D[i] D[j] <;> cases part D[i] S[j] <;> rfl
      · have q' : ¬ (i : Int) = (j : Int) := by omega
        simp only [if_neg q', decide_eq_false q]
        cases part S[i] S[j] <;> cases part D[i] D[j] <;> cases part D[i] S[j] <;> rfl
theorem PC3 (F : Nat) (N : Int) (S D : List Pl) (n : Nat) (hF : n < F) (hn : n < 1000) (hN : N = n) (hS : S.length = n) (hD : D.length = n) : ∀ (f m i : Nat), i + m = n → m < f → Ptableau_CheckL3 F N N S D f (i : Int) = some (bif allFrom (fun i => allFrom (two S D i) n 0) m i then .inr () else .inl ())
  | 0, m, i, _, h => by omega
  | f + 1, m, i, e, h => by
    unfold Ptableau_CheckL3
    cases m with
    | zero => rw [if_neg (by omega)]; rfl
    | succ m =>
      have := PC2 N S D n hn hN hS hD N (i : Int) i (by omega) F n 0 (by omega) hF
      rw [if_pos (by omega)]
      have ih := PC3 F N S D n hF hn hN hS hD f m (i + 1) (by omega) (by omega)
      rw [show ((i + 1 : Nat) : Int) = (i : Int) + 1 by omega] at ih
      rw [allFrom, wrap_id ⟨by omega, by omega⟩, ih]
      rw [show ((0 : Nat) : Int) = 0 from rfl] at this
      rw [this]
      cases allFrom (two S D i) n 0 <;> rfl
theorem P_Check (F : Nat) (hF : 66 ≤ F) (N : Int) (S D : List Pl) : Ptableau_Check F N S D = some (if chk N S D = true then 0 else 140) := by
  unfold Ptableau_Check chk
  by_cases h1 : N < 0
  · rw [if_pos h1, decide_eq_false (by omega : ¬ 0 ≤ N)]; rfl
  · rw [if_neg h1, decide_eq_true (by omega : 0 ≤ N)]
    by_cases h2 : N > 64
    · rw [if_pos h2, decide_eq_false (by omega : ¬ N ≤ 64)]; rfl
    · rw [if_neg h2, decide_eq_true (by omega : N ≤ 64)]
      by_cases h3 : (S.length : Int) = N
      · rw [if_pos h3, decide_eq_true h3]
        by_cases h4 : (D.length : Int) = N
        · rw [if_pos h4, decide_eq_true h4]
          obtain ⟨n, rfl⟩ : ∃ n : Nat, N = (n : Int) := ⟨N.toNat, by omega⟩
          have c1 := PC1 F (by omega) n S D n (by omega) rfl (by omega) (by omega) F n 0 (by omega) (by omega)
          have c3 := PC3 F n S D n (by omega) (by omega) rfl (by omega) (by omega) F n 0 (by omega) (by omega)
          rw [show ((0 : Nat) : Int) = 0 from rfl] at c1 c3
          rw [c1, c3, Int.toNat_natCast]
          cases allFrom (oneAt n S D) n 0 <;> cases allFrom (fun i => allFrom (two S D i) n 0) n 0 <;> rfl
        · rw [if_neg h4, decide_eq_false h4]; rfl
      · rw [if_neg h3, decide_eq_false h3]; rfl
end Go.Proofs.YtogkkamlmklpkaaDoor.Ab
