/- Plain law: what a string is to a tableau (Member), the program's word and the reference's. No condition: lemmas only. -/
import Derived.Test.YtogkkamlmklpkaaDoorW5
set_option maxRecDepth 100000
set_option linter.unusedVariables false
set_option linter.unusedSimpArgs false
namespace Go.Proofs.YtogkkamlmklpkaaDoor.Ab
open Go
/-- A tableau in order, told place by place. -/
structure Tab (N : Int) (S D : List Pl) (n : Nat) : Prop where
  eN : N = n
  le : n ≤ 64
  ls : S.length = n
  ld : D.length = n
  oS : ∀ i (h : i < S.length), one N S[i] = true
  oD : ∀ i (h : i < D.length), one N D[i] = true
  ss : ∀ i j (h : i < S.length) (k : j < S.length), part S[i] S[j] = false
  dd : ∀ i j (h : i < D.length) (k : j < D.length), part D[i] D[j] = false
  ds : ∀ i j (h : i < D.length) (k : j < S.length), part D[i] S[j] = decide (i = j)
theorem chk_tab {N : Int} {S D : List Pl} (h : chk N S D = true) : ∃ n, Tab N S D n := by
  unfold chk at h
  simp only [Bool.and_eq_true, decide_eq_true_eq] at h
  obtain ⟨⟨⟨⟨h1, h2⟩, h3⟩, h4⟩, h5, h6⟩ := h
  obtain ⟨n, rfl⟩ : ∃ n : Nat, N = (n : Int) := ⟨N.toNat, by omega⟩
  rw [Int.toNat_natCast] at h5 h6
  have g1 := allFrom_iff.1 h5
  have g2 := fun i a b j c d => allFrom_iff.1 (allFrom_iff.1 h6 i a b) j c d
  have k1 : ∀ i (a : i < S.length) (b : i < D.length), one n S[i] = true ∧ one n D[i] = true := fun i a b => by
    have := g1 i (by omega) (by omega)
    unfold oneAt at this
    rw [List.getElem?_eq_getElem a, List.getElem?_eq_getElem b] at this
    simpa using this
  have k2 : ∀ i j (a : i < S.length) (b : i < D.length) (c : j < S.length) (d : j < D.length), part S[i] S[j] = false ∧ part D[i] D[j] = false ∧ part D[i] S[j] = decide (i = j) := fun i j a b c d => by
    have := g2 i (by omega) (by omega) j (by omega) (by omega)
    unfold two at this
    rw [List.getElem?_eq_getElem a, List.getElem?_eq_getElem b, List.getElem?_eq_getElem c, List.getElem?_eq_getElem d] at this
    simp only [Bool.and_eq_true, Bool.not_eq_true', beq_iff_eq] at this
    exact ⟨this.1.1, this.1.2, this.2⟩
  exact ⟨n, rfl, by omega, by omega, by omega, fun i a => (k1 i a (by omega)).1, fun i a => (k1 i (by omega) a).2, fun i j a b => (k2 i j a (by omega) b (by omega)).1, fun i j a b => (k2 i j (by omega) a (by omega) b).2.1, fun i j a b => (k2 i j (by omega) a b (by omega)).2.2⟩
theorem one_iff {N : Int} {p : Pl} : one N p = true ↔ p.N = N ∧ p.ok = true ∧ p.Ph % 2 = 0 := by
  unfold one Pl.herm
  simp only [Bool.and_eq_true, decide_eq_true_eq]
theorem ok_iff {p : Pl} : p.ok = true ↔ 0 ≤ p.N ∧ p.N ≤ 64 ∧ 0 ≤ p.Ph ∧ p.Ph ≤ 3 ∧ p.X.toNat < 2 ^ p.N.toNat ∧ p.Z.toNat < 2 ^ p.N.toNat := by
  refine ⟨fun h => ?_, fun ⟨h1, h2, h3, h4, h5, h6⟩ => ?_⟩
  · obtain ⟨a, b, c, d⟩ := Pl.ok_ph h
    obtain ⟨e, f⟩ := Pl.ok_lt h
    exact ⟨a, b, c, d, e, f⟩
  · unfold Pl.ok
    simp only [Bool.and_eq_true, decide_eq_true_eq, Bool.or_eq_true]
    refine ⟨⟨⟨⟨h1, h2⟩, h3⟩, h4⟩, .inr ?_⟩
    apply BitVec.eq_of_toNat_eq
    rw [tn_shr, BitVec.toNat_or, Nat.div_eq_of_lt (Nat.or_lt_two_pow h5 h6)]
    rfl
theorem mulP_ok {p q : Pl} (hp : p.ok = true) (hq : q.ok = true) (hn : p.N = q.N) : (mulP p q).ok = true ∧ (mulP p q).N = p.N := by
  obtain ⟨a, b, c, d, e, f⟩ := ok_iff.1 hp
  obtain ⟨_, _, c', d', e', f'⟩ := ok_iff.1 hq
  rw [← hn] at e' f'
  refine ⟨ok_iff.2 ⟨a, b, ?_, ?_, ?_, ?_⟩, rfl⟩
  · show 0 ≤ (_ : Int) % 4; omega
  · show (_ : Int) % 4 ≤ 3; omega
  · show (p.X ^^^ q.X).toNat < _; rw [BitVec.toNat_xor]; exact Nat.xor_lt_two_pow e e'
  · show (p.Z ^^^ q.Z).toNat < _; rw [BitVec.toNat_xor]; exact Nat.xor_lt_two_pow f f'
/-- One step of the product told by the destabilizers. -/
def stepS (S D : List Pl) (z : Pl) (i : Nat) (a : Pl) : Pl := match S[i]?, D[i]? with
  | some s, some d => bif part d z then mulP a s else a
  | _, _ => a
def walkS (S D : List Pl) (z : Pl) : Nat → Nat → Pl → Pl
  | 0, _, a => a
  | m + 1, i, a => walkS S D z m (i + 1) (stepS S D z i a)
theorem stepS_at {S D : List Pl} {z a : Pl} {i : Nat} (h1 : i < S.length) (h2 : i < D.length) : stepS S D z i a = bif part D[i] z then mulP a S[i] else a := by
  unfold stepS; rw [List.getElem?_eq_getElem h1, List.getElem?_eq_getElem h2]
theorem stepS_ok {N : Int} {S D : List Pl} {n : Nat} (t : Tab N S D n) {z a : Pl} {i : Nat} (hi : i < n) (ha : a.ok = true) (hn : a.N = N) : (stepS S D z i a).ok = true ∧ (stepS S D z i a).N = N := by
  rw [stepS_at (by rw [t.ls]; exact hi) (by rw [t.ld]; exact hi)]
  obtain ⟨o1, o2, _⟩ := one_iff.1 (t.oS i (by rw [t.ls]; exact hi))
  cases part (D[i]'(by rw [t.ld]; exact hi)) z with
  | false => exact ⟨ha, hn⟩
  | true =>
    obtain ⟨q1, q2⟩ := mulP_ok ha o2 (hn.trans o1.symm)
    exact ⟨q1, q2.trans hn⟩
theorem PS0 (F : Nat) (hF : 65 ≤ F) {N : Int} {S D : List Pl} {n : Nat} (t : Tab N S D n) (z r : Pl) : ∀ (f m i : Nat) (a : Pl), i + m = n → m < f → a.ok = true → a.N = N →
    Ptableau_sureL0 F D n N S D z.N z.X z.Z z.Ph r.N r.X r.Z r.Ph f (i : Int) a.N a.X a.Z a.Ph = some ((walkS S D z m i a).N, (walkS S D z m i a).X, (walkS S D z m i a).Z, (walkS S D z m i a).Ph)
  | 0, m, i, a, _, h, _, _ => by omega
  | f + 1, m, i, a, e, h, ha, hn => by
    have hle := t.le
    unfold Ptableau_sureL0
    cases m with
    | zero => rw [if_neg (by omega)]; rfl
    | succ m =>
      have i1 : i < S.length := by rw [t.ls]; omega
      have i2 : i < D.length := by rw [t.ld]; omega
      obtain ⟨o1, o2, _⟩ := one_iff.1 (t.oS i i1)
      have so := stepS_ok t (z := z) (i := i) (by omega) ha hn
      have ih := PS0 F hF t z r f m (i + 1) (stepS S D z i a) (by omega) (by omega) so.1 so.2
      rw [show ((i + 1 : Nat) : Int) = (i : Int) + 1 by omega] at ih
      rw [if_pos (by omega), idx_lt i1, idx_lt i2]
      simp only [P_commute, wrap_id (n := (i : Int) + 1) ⟨by omega, by omega⟩, P_mul F hF a S[i] ha o2 (hn.trans o1.symm)]
      rw [walkS]
      rw [stepS_at i1 i2] at ih ⊢
      cases hc : part D[i] z with
      | false => rw [hc] at ih; exact ih
      | true => rw [hc] at ih; exact ih
/-- Nothing yet. -/
def unit (N : Int) : Pl := ⟨N, 0#64, 0#64, 0⟩
theorem unit_ok {N : Int} {S D : List Pl} {n : Nat} (t : Tab N S D n) : (unit N).ok = true ∧ (unit N).N = N := by
  have h1 := t.eN
  have h2 := t.le
  exact ⟨ok_iff.2 ⟨by show 0 ≤ N; omega, by show N ≤ 64; omega, Int.le_refl _, by show (0 : Int) ≤ 3; omega, Nat.two_pow_pos _, Nat.two_pow_pos _⟩, rfl⟩
theorem P_sure (F : Nat) (hF : 65 ≤ F) {N : Int} {S D : List Pl} {n : Nat} (t : Tab N S D n) (z : Pl) : Ptableau_sure F N S D z.N z.X z.Z z.Ph = some ((walkS S D z n 0 (unit N)).N, (walkS S D z n 0 (unit N)).X, (walkS S D z n 0 (unit N)).Z, (walkS S D z n 0 (unit N)).Ph) := by
  have hle := t.le
  obtain ⟨u1, u2⟩ := unit_ok t
  have := PS0 F hF t z ⟨0, 0#64, 0#64, 0⟩ F n 0 (unit N) (by omega) (by omega) u1 u2
  unfold Ptableau_sure
  rw [show ((D.length : Nat) : Int) = (n : Int) by rw [t.ld]]
  exact (congrArg (fun x => match x with | none => none | some (y1, y2, y3, y4) => some (y1, y2, y3, y4)) this)
theorem RS0 (F : Nat) (hF : 66 ≤ F) {N : Int} {S D : List Pl} {n : Nat} (t : Tab N S D n) (z : Pl) : ∀ (f m i : Nat) (a : Pl), i + m = n → m < f → a.ok = true → a.N = N →
    Pref14_signL0 F N S D z.N z.X z.Z z.Ph f (i : Int) a.N a.X a.Z a.Ph = some ((walkS S D z m i a).N, (walkS S D z m i a).X, (walkS S D z m i a).Z, (walkS S D z m i a).Ph)
  | 0, m, i, a, _, h, _, _ => by omega
  | f + 1, m, i, a, e, h, ha, hn => by
    have hle := t.le
    have hN := t.eN
    unfold Pref14_signL0
    cases m with
    | zero => rw [if_neg (by omega)]; rfl
    | succ m =>
      have i1 : i < S.length := by rw [t.ls]; omega
      have i2 : i < D.length := by rw [t.ld]; omega
      obtain ⟨o1, o2, _⟩ := one_iff.1 (t.oS i i1)
      have so := stepS_ok t (z := z) (i := i) (by omega) ha hn
      have ih := RS0 F hF t z f m (i + 1) (stepS S D z i a) (by omega) (by omega) so.1 so.2
      rw [show ((i + 1 : Nat) : Int) = (i : Int) + 1 by omega] at ih
      rw [if_pos (by omega), idx_lt i1, idx_lt i2]
      simp only [R_commute F (by omega : 65 ≤ F), wrap_id (n := (i : Int) + 1) ⟨by omega, by omega⟩, R_times F hF a S[i] ha o2 (hn.trans o1.symm)]
      rw [walkS]
      rw [stepS_at i1 i2] at ih ⊢
      cases hc : part D[i] z with
      | false => rw [hc] at ih; exact ih
      | true => rw [hc] at ih; exact ih
theorem R_sign (F : Nat) (hF : 66 ≤ F) {N : Int} {S D : List Pl} {n : Nat} (t : Tab N S D n) (z : Pl) : Pref14_sign F N S D z.N z.X z.Z z.Ph = some (if (walkS S D z n 0 (unit N)).Ph = z.Ph then 1 else -1) := by
  have hle := t.le
  obtain ⟨u1, u2⟩ := unit_ok t
  have := RS0 F hF t z F n 0 (unit N) (by omega) (by omega) u1 u2
  unfold Pref14_sign
  refine (congrArg (fun x => match x with | none => none | some (y1, y2, y3, y4) => if y4 = z.Ph then some (1 : Int) else some (-1)) this).trans ?_
  simp only []
  split <;> rfl
end Go.Proofs.YtogkkamlmklpkaaDoor.Ab
