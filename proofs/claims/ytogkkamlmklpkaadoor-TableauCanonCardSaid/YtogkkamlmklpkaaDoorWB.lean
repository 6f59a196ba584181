/- Plain law: what a string is to a tableau (Member), the program's word and the reference's. No condition: lemmas only. -/
import Derived.Test.YtogkkamlmklpkaaDoorWA
set_option maxRecDepth 100000
set_option linter.unusedVariables false
set_option linter.unusedSimpArgs false
namespace Go.Proofs.YtogkkamlmklpkaaDoor.Ab
open Go
/-- A tableau in order, told place by place. -/
structure Tab (N : Int) (S D : List Pl) (n : Nat) : Prop where
  eN : N = n
  le : n ≤ 64
  ls : S.length = n
  ld : D.length = n
  oS : ∀ i (h : i < S.length), one N S[i] = true
  oD : ∀ i (h : i < D.length), one N D[i] = true
  ss : ∀ i j (h : i < S.length) (k : j < S.length), part S[i] S[j] = false
  dd : ∀ i j (h : i < D.length) (k : j < D.length), part D[i] D[j] = false
  ds : ∀ i j (h : i < D.length) (k : j < S.length), part D[i] S[j] = decide (i = j)
theorem chk_tab {N : Int} {S D : List Pl} (h : chk N S D = true) : ∃ n, Tab N S D n := by
  unfold chk at h
  simp only [Bool.and_eq_true, decide_eq_true_eq] at h
  obtain ⟨⟨⟨⟨h1, h2⟩, h3⟩, h4⟩, h5, h6⟩ := h
  obtain ⟨n, rfl⟩ : ∃ n : Nat, N = (n : Int) := ⟨N.toNat, by omega⟩
  rw [Int.toNat_natCast] at h5 h6
  have g1 := allFrom_iff.1 h5
  have g2 := fun i a b j c d => allFrom_iff.1 (allFrom_iff.1 h6 i a b) j c d
  have k1 : ∀ i (a : i < S.length) (b : i < D.length), one n S[i] = true ∧ one n D[i] = true := fun i a b => by
    have := g1 i (by omega) (by omega)
    unfold oneAt at this
    rw [List.getElem?_eq_getElem a, List.getElem?_eq_getElem b] at this
    simpa using this
  have k2 : ∀ i j (a : i < S.length) (b : i < D.length) (c : j < S.length) (d : j < D.length), part S[i] S[j] = false ∧ part D[i] D[j] = false ∧ part D[i] S[j] = decide (i = j) := fun i j a b c d => by
    have := g2 i (by omega) (by omega) j (by omega) (by omega)
    unfold two at this
    rw [List.getElem?_eq_getElem a, List.getElem?_eq_getElem b, List.getElem?_eq_getElem c, List.getElem?_eq_getElem d] at this
    simp only [Bool.and_eq_true, Bool.not_eq_true', beq_iff_eq] at this
    exact ⟨this.1.1, this.1.2, this.2⟩
  exact ⟨n, rfl, by omega, by omega, by omega, fun i a => (k1 i a (by omega)).1, fun i a => (k1 i (by omega) a).2, fun i j a b => (k2 i j a (by omega) b (by omega)).1, fun i j a b => (k2 i j (by omega) a (by omega) b).2.1, fun i j a b => (k2 i j (by omega) a b (by omega)).2.2⟩
theorem one_iff {N : Int} {p : Pl} : one N p = true ↔ p.N = N ∧ p.ok = true ∧ p.Ph % 2 = 0 := by
  unfold one Pl.herm
  simp only [Bool.and_eq_true, decide_eq_true_eq]
theorem ok_iff {p : Pl} : p.ok = true ↔ 0 ≤ p.N ∧ p.N ≤ 64 ∧ 0 ≤ p.Ph ∧ p.Ph ≤ 3 ∧ p.X.toNat < 2 ^ p.N.toNat ∧ p.Z.toNat < 2 ^ p.N.toNat := by
  refine ⟨fun h => ?_, fun ⟨h1, h2, h3, h4, h5, h6⟩ => ?_⟩
  · obtain ⟨a, b, c, d⟩ := Pl.ok_ph h
    obtain ⟨e, f⟩ := Pl.ok_lt h
    exact ⟨a, b, c, d, e, f⟩
  · unfold Pl.ok
    simp only [Bool.and_eq_true, decide_eq_true_eq, Bool.or_eq_true]
    refine ⟨⟨⟨⟨h1, h2⟩, h3⟩, h4⟩, .inr ?_⟩
    apply BitVec.eq_of_toNat_eq
    rw [tn_shr, BitVec.toNat_or, Nat.div_eq_of_lt (Nat.or_lt_two_pow h5 h6)]
    rfl
theorem mulP_ok {p q : Pl} (hp : p.ok = true) (hq : q.ok = true) (hn : p.N = q.N) : (mulP p q).ok = true ∧ (mulP p q).N = p.N := by
  obtain ⟨a, b, c, d, e, f⟩ := ok_iff.1 hp
  obtain ⟨_, _, c', d', e', f'⟩ := ok_iff.1 hq
  rw [← hn] at e' f'
  refine ⟨ok_iff.2 ⟨a, b, ?_, ?_, ?_, ?_⟩, rfl⟩
  · show 0 ≤ (_ : Int) % 4; omega
  · show (_ : Int) % 4 ≤ 3; omega
  · show (p.X ^^^ q.X).toNat < _; rw [BitVec.toNat_xor]; exact Nat.xor_lt_two_pow e e'
  · show (p.Z ^^^ q.Z).toNat < _; rw [BitVec.toNat_xor]; exact Nat.xor_lt_two_pow f f'
/-- One step of the product told by the destabilizers. -/
def stepS (S D : List Pl) (z : Pl) (i : Nat) (a : Pl) : Pl := match S[i]?, D[i]? with
  | some s, some d => bif part d z then mulP a s else a
  | _, _ => a
def walkS (S D : List Pl) (z : Pl) : Nat → Nat → Pl → Pl
  | 0, _, a => a
  | m + 1, i, a => walkS S D z m (i + 1) (stepS S D z i a)
theorem stepS_at {S D : List Pl} {z a : Pl} {i : Nat} (h1 : i < S.length) (h2 : i < D.length) : stepS S D z i a = bif part D[i] z then mulP a S[i] else a := by
  unfold stepS; rw [List.getElem?_eq_getElem h1, List.getElem?_eq_getElem h2]
theorem stepS_ok {N : Int} {S D : List Pl} {n : Nat} (t : Tab N S D n) {z a : Pl} {i : Nat} (hi : i < n) (ha : a.ok = true) (hn : a.N = N) : (stepS S D z i a).ok = true ∧ (stepS S D z i a).N = N := by
  rw [stepS_at (by rw [t.ls]; exact hi) (by rw [t.ld]; exact hi)]
  obtain ⟨o1, o2, _⟩ := one_iff.1 (t.oS i (by rw [t.ls]; exact hi))
  cases part (D[i]'(by rw [t.ld]; exact hi)) z with
  | false => exact ⟨ha, hn⟩
  | true =>
    obtain ⟨q1, q2⟩ := mulP_ok ha o2 (hn.trans o1.symm)
    exact ⟨q1, q2.trans hn⟩
theorem PS0 (F : Nat) (hF : 65 ≤ F) {N : Int} {S D : List Pl} {n : Nat} (t : Tab N S D n) (z r : Pl) : ∀ (f m i : Nat) (a : Pl), i + m = n → m < f → a.ok = true → a.N = N →
    Ptableau_sureL0 F D n N S D z.N z.X z.Z z.Ph r.N r.X r.Z r.Ph f (i : Int) a.N a.X a.Z a.Ph = some ((walkS S D z m i a).N, (walkS S D z m i a).X, (walkS S D z m i a).Z, (walkS S D z m i a).Ph)
  | 0, m, i, a, _, h, _, _ => by omega
  | f + 1, m, i, a, e, h, ha, hn => by
    have hle := t.le
    unfold Ptableau_sureL0
    cases m with
    | zero => rw [if_neg (by omega)]; rfl
    | succ m =>
      have i1 : i < S.length := by rw [t.ls]; omega
      have i2 : i < D.length := by rw [t.ld]; omega
      obtain ⟨o1, o2, _⟩ := one_iff.1 (t.oS i i1)
      have so := stepS_ok t (z := z) (i := i) (by omega) ha hn
      have ih := PS0 F hF t z r f m (i + 1) (stepS S D z i a) (by omega) (by omega) so.1 so.2
      rw [show ((i + 1 : Nat) : Int) = (i : Int) + 1 by omega] at ih
      rw [if_pos (by omega), idx_lt i1, idx_lt i2]
      simp only [P_commute, wrap_id (n := (i : Int) + 1) ⟨by omega, by omega⟩, P_mul F hF a S[i] ha o2 (hn.trans o1.symm)]
      rw [walkS]
      rw [stepS_at i1 i2] at ih ⊢
      cases hc : part D[i] z with
      | false => rw [hc] at ih; exact ih
      | true => rw [hc] at ih; exact ih
/-- Nothing yet. -/
def unit (N : Int) : Pl := ⟨N, 0#64, 0#64, 0⟩
theorem unit_ok {N : Int} {S D : List Pl} {n : Nat} (t : Tab N S D n) : (unit N).ok = true ∧ (unit N).N = N := by
  have h1 := t.eN
  have h2 := t.le
  exact ⟨ok_iff.2 ⟨by show 0 ≤ N; omega, by show N ≤ 64; omega, Int.le_refl _, by show (0 : Int) ≤ 3; omega, Nat.two_pow_pos _, Nat.two_pow_pos _⟩, rfl⟩
theorem P_sure (F : Nat) (hF : 65 ≤ F) {N : Int} {S D : List Pl} {n : Nat} (t : Tab N S D n) (z : Pl) : Ptableau_sure F N S D z.N z.X z.Z z.Ph = some ((walkS S D z n 0 (unit N)).N, (walkS S D z n 0 (unit N)).X, (walkS S D z n 0 (unit N)).Z, (walkS S D z n 0 (unit N)).Ph) := by
  have hle := t.le
  obtain ⟨u1, u2⟩ := unit_ok t
  have := PS0 F hF t z ⟨0, 0#64, 0#64, 0⟩ F n 0 (unit N) (by omega) (by omega) u1 u2
  unfold Ptableau_sure
  rw [show ((D.length : Nat) : Int) = (n : Int) by rw [t.ld]]
  exact (congrArg (fun x => match x with | none => none | some (y1, y2, y3, y4) => some (y1, y2, y3, y4)) this)
theorem RS0 (F : Nat) (hF : 66 ≤ F) {N : Int} {S D : List Pl} {n : Nat} (t : Tab N S D n) (z : Pl) : ∀ (f m i : Nat) (a : Pl), i + m = n → m < f → a.ok = true → a.N = N →
    Pref14_signL0 F N S D z.N z.X z.Z z.Ph f (i : Int) a.N a.X a.Z a.Ph = some ((walkS S D z m i a).N, (walkS S D z m i a).X, (walkS S D z m i a).Z, (walkS S D z m i a).Ph)
  | 0, m, i, a, _, h, _, _ => by omega
  | f + 1, m, i, a, e, h, ha, hn => by
    have hle := t.le
    have hN := t.eN
    unfold Pref14_signL0
    cases m with
    | zero => rw [if_neg (by omega)]; rfl
    | succ m =>
      have i1 : i < S.length := by rw [t.ls]; omega
      have i2 : i < D.length := by rw [t.ld]; omega
      obtain ⟨o1, o2, _⟩ := one_iff.1 (t.oS i i1)
      have so := stepS_ok t (z := z) (i := i) (by omega) ha hn
      have ih := RS0 F hF t z f m (i + 1) (stepS S D z i a) (by omega) (by omega) so.1 so.2
      rw [show ((i + 1 : Nat) : Int) = (i : Int) + 1 by omega] at ih
      rw [if_pos (by omega), idx_lt i1, idx_lt i2]
      simp only [R_commute F (by omega : 65 ≤ F), wrap_id (n := (i : Int) + 1) ⟨by omega, by omega⟩, R_times F hF a S[i] ha o2 (hn.trans o1.symm)]
      rw [walkS]
      rw [stepS_at i1 i2] at ih ⊢
      cases hc : part D[i] z with
      | false => rw [hc] at ih; exact ih
      | true => rw [hc] at ih; exact ih
theorem R_sign (F : Nat) (hF : 66 ≤ F) {N : Int} {S D : List Pl} {n : Nat} (t : Tab N S D n) (z : Pl) : Pref14_sign F N S D z.N z.X z.Z z.Ph = some (if (walkS S D z n 0 (unit N)).Ph = z.Ph then 1 else -1) := by
  have hle := t.le
  obtain ⟨u1, u2⟩ := unit_ok t
  have := RS0 F hF t z F n 0 (unit N) (by omega) (by omega) u1 u2
  unfold Pref14_sign
  refine (congrArg (fun x => match x with | none => none | some (y1, y2, y3, y4) => if y4 = z.Ph then some (1 : Int) else some (-1)) this).trans ?_
  simp only []
  split <;> rfl
end Go.Proofs.YtogkkamlmklpkaaDoor.Ab
/- Plain law: a string that parts with no stabilizer is their product (but for its sign): Member. No condition: lemmas only. -/
set_option maxRecDepth 100000
set_option linter.unusedVariables false
set_option linter.unusedSimpArgs false
namespace Go.Proofs.YtogkkamlmklpkaaDoor.Ab
open Go
/-- The first stabilizer that parts with a string. -/
def firstPart (S : List Pl) (z : Pl) : Nat → Nat → Option Nat
  | 0, _ => none
  | m + 1, i => match S[i]? with
    | some s => bif part s z then some i else firstPart S z m (i + 1)
    | none => none
theorem firstPart_some {S : List Pl} {z : Pl} : ∀ {m i j : Nat}, firstPart S z m i = some j → i ≤ j ∧ j < i + m ∧ ∃ h : j < S.length, part S[j] z = true
  | 0, i, j, h => by cases h
  | m + 1, i, j, h => by
    unfold firstPart at h
    cases e : S[i]? with
    | none => rw [e] at h; cases h
    | some s =>
      rw [e] at h
      simp only [] at h
      obtain ⟨hl, hs⟩ := List.getElem?_eq_some_iff.1 e
      cases hp : part s z with
      | true => rw [hp] at h; cases h; exact ⟨by omega, by omega, hl, by rw [hs]; exact hp⟩
      | false =>
        rw [hp] at h
        obtain ⟨a, b, c⟩ := firstPart_some h
        exact ⟨by omega, by omega, c⟩
theorem firstPart_none {S : List Pl} {z : Pl} : ∀ {m i : Nat}, i + m ≤ S.length → firstPart S z m i = none → ∀ j (h : j < S.length), i ≤ j → j < i + m → part S[j] z = false
  | 0, i, _, _, j, _, _, _ => by omega
  | m + 1, i, hl, h, j, hj, h1, h2 => by
    unfold firstPart at h
    have i1 : i < S.length := by omega
    rw [List.getElem?_eq_getElem i1] at h
    simp only [] at h
    cases hp : part S[i] z with
    | true => rw [hp] at h; cases h
    | false =>
      rw [hp] at h
      by_cases e : j = i
      · subst e; exact hp
      · exact firstPart_none (by omega) h j hj (by omega) (by omega)
theorem firstPart_at {S : List Pl} {z : Pl} {m i : Nat} (h : i < S.length) : firstPart S z (m + 1) i = bif part S[i] z then some i else firstPart S z m (i + 1) := by rw [firstPart, List.getElem?_eq_getElem h]
theorem RL0 (F : Nat) (hF : 65 ≤ F) {N : Int} {S D : List Pl} {n : Nat} (t : Tab N S D n) (z : Pl) : ∀ (f m i : Nat), i + m = n → m < f →
    Pref14_looseL0 F N S D z.N z.X z.Z z.Ph f (i : Int) = some (match firstPart S z m i with | some j => .inl (j : Int) | none => .inr ())
  | 0, m, i, _, h => by omega
  | f + 1, m, i, e, h => by
    have hle := t.le
    have hN := t.eN
    unfold Pref14_looseL0
    cases m with
    | zero => rw [if_neg (by omega)]; rfl
    | succ m =>
      have i1 : i < S.length := by rw [t.ls]; omega
      have ih := RL0 F hF t z f m (i + 1) (by omega) (by omega)
      rw [show ((i + 1 : Nat) : Int) = (i : Int) + 1 by omega] at ih
      rw [if_pos (by omega), idx_lt i1]
      simp only [R_commute F hF, wrap_id (n := (i : Int) + 1) ⟨by omega, by omega⟩]
      rw [firstPart_at i1]
      cases hc : part S[i] z with
      | false => exact ih
      | true => rfl
theorem R_loose (F : Nat) (hF : 66 ≤ F) {N : Int} {S D : List Pl} {n : Nat} (t : Tab N S D n) (z : Pl) : Pref14_loose F N S D z.N z.X z.Z z.Ph = some (match firstPart S z n 0 with | some j => (j : Int) | none => -1) := by
  have hle := t.le
  have := RL0 F (by omega) t z F n 0 (by omega) (by omega)
  rw [show ((0 : Nat) : Int) = 0 from rfl] at this
  unfold Pref14_loose
  rw [this]
  cases firstPart S z n 0 <;> rfl
theorem PF0 {N : Int} {S D : List Pl} {n : Nat} (t : Tab N S D n) (z : Pl) : ∀ (f m i : Nat), i + m = n → m < f →
    Ptableau_ForceL0 S z.N z.X z.Z z.Ph (n : Int) f (i : Int) = some (match firstPart S z m i with | some j => .inl (j : Int) | none => .inr ())
  | 0, m, i, _, h => by omega
  | f + 1, m, i, e, h => by
    have hle := t.le
    unfold Ptableau_ForceL0
    cases m with
    | zero => rw [if_neg (by omega)]; rfl
    | succ m =>
      have i1 : i < S.length := by rw [t.ls]; omega
      have ih := PF0 t z f m (i + 1) (by omega) (by omega)
      rw [show ((i + 1 : Nat) : Int) = (i : Int) + 1 by omega] at ih
      rw [if_pos (by omega), idx_lt i1]
      simp only [P_commute, wrap_id (n := (i : Int) + 1) ⟨by omega, by omega⟩]
      rw [firstPart_at i1]
      cases hc : part S[i] z with
      | false => exact ih
      | true => rfl
/-! ### The span -/
theorem part_mul (p a s : Pl) : part p (mulP a s) = (part p a ^^ part p s) := by
  unfold part mulP
  simp only [BitVec.toNat_xor]
  exact om_xor ..
theorem part_unit (p : Pl) (N : Int) : part p (unit N) = false := om_zero ..
theorem part_walk {N : Int} {S D : List Pl} {n : Nat} (t : Tab N S D n) (z p : Pl) (hp : ∀ j (h : j < S.length), part p S[j] = false) : ∀ (m i : Nat) (a : Pl), i + m ≤ n → part p a = false → part p (walkS S D z m i a) = false
  | 0, i, a, _, h => h
  | m + 1, i, a, e, h => by
    have i1 : i < S.length := by rw [t.ls]; omega
    have i2 : i < D.length := by rw [t.ld]; omega
    rw [walkS]
    refine part_walk t z p hp m (i + 1) _ (by omega) ?_
    rw [stepS_at i1 i2]
    cases part D[i] z with
    | false => exact h
    | true => rw [cond_true, part_mul, h, hp i i1]; rfl
def colX (S : List Pl) (i : Nat) : Nat := match S[i]? with | some s => s.X.toNat | none => 0
def colZ (S : List Pl) (i : Nat) : Nat := match S[i]? with | some s => s.Z.toNat | none => 0
theorem colX_at {S : List Pl} {i : Nat} (h : i < S.length) : colX S i = S[i].X.toNat := by unfold colX; rw [List.getElem?_eq_getElem h]
theorem colZ_at {S : List Pl} {i : Nat} (h : i < S.length) : colZ S i = S[i].Z.toNat := by unfold colZ; rw [List.getElem?_eq_getElem h]
theorem walk_comb {N : Int} {S D : List Pl} {n : Nat} (t : Tab N S D n) (z : Pl) : ∀ (m i : Nat) (a : Pl), i + m ≤ n →
    a.X.toNat = comb (colX S) (fun j => om (colX D j) (colZ D j) z.X.toNat z.Z.toNat) i → a.Z.toNat = comb (colZ S) (fun j => om (colX D j) (colZ D j) z.X.toNat z.Z.toNat) i →
    (walkS S D z m i a).X.toNat = comb (colX S) (fun j => om (colX D j) (colZ D j) z.X.toNat z.Z.toNat) (i + m) ∧ (walkS S D z m i a).Z.toNat = comb (colZ S) (fun j => om (colX D j) (colZ D j) z.X.toNat z.Z.toNat) (i + m)
  | 0, i, a, _, h1, h2 => ⟨h1, h2⟩
  | m + 1, i, a, e, h1, h2 => by
    have i1 : i < S.length := by rw [t.ls]; omega
    have i2 : i < D.length := by rw [t.ld]; omega
    rw [walkS, show i + (m + 1) = i + 1 + m by omega]
    refine walk_comb t z m (i + 1) _ (by omega) ?_ ?_
    · rw [stepS_at i1 i2, comb, ← h1, colX_at i2, colZ_at i2, colX_at i1]
      show _ = _
      unfold part
      cases om D[i].X.toNat D[i].Z.toNat z.X.toNat z.Z.toNat <;> simp [mulP, BitVec.toNat_xor]
    · rw [stepS_at i1 i2, comb, ← h2, colX_at i2, colZ_at i2, colZ_at i1]
      unfold part
      cases om D[i].X.toNat D[i].Z.toNat z.X.toNat z.Z.toNat <;> simp [mulP, BitVec.toNat_xor]
theorem first_walk {N : Int} {S D : List Pl} {n : Nat} (t : Tab N S D n) {z : Pl} (hz : one N z = true) : firstPart S z n 0 = none ↔ (walkS S D z n 0 (unit N)).X = z.X ∧ (walkS S D z n 0 (unit N)).Z = z.Z := by
  obtain ⟨z1, z2, _⟩ := one_iff.1 hz
  obtain ⟨_, _, _, _, zx, zz⟩ := ok_iff.1 z2
  have hN := t.eN
  rw [z1, hN, Int.toNat_natCast] at zx zz
  have oS := fun i (h : i < S.length) => (one_iff.1 (t.oS i h))
  have oD := fun i (h : i < D.length) => (one_iff.1 (t.oD i h))
  have lS : ∀ i (h : i < S.length), S[i].X.toNat < 2 ^ n ∧ S[i].Z.toNat < 2 ^ n := fun i h => by
    obtain ⟨a, b, _⟩ := oS i h
    obtain ⟨_, _, _, _, x, y⟩ := ok_iff.1 b
    rw [a, hN, Int.toNat_natCast] at x y
    exact ⟨x, y⟩
  have lD : ∀ i (h : i < D.length), D[i].X.toNat < 2 ^ n ∧ D[i].Z.toNat < 2 ^ n := fun i h => by
    obtain ⟨a, b, _⟩ := oD i h
    obtain ⟨_, _, _, _, x, y⟩ := ok_iff.1 b
    rw [a, hN, Int.toNat_natCast] at x y
    exact ⟨x, y⟩
  have hs := t.ls
  have hd := t.ld
  constructor
  · intro h
    have hc := firstPart_none (by omega) h
    have key := span_stab (n := n) (sx := colX S) (sz := colZ S) (dx := colX D) (dz := colZ D) (x := z.X.toNat) (z := z.Z.toNat)
      (fun i hi => by rw [colX_at (by omega)]; exact (lS i (by omega)).1) (fun i hi => by rw [colZ_at (by omega)]; exact (lS i (by omega)).2)
      (fun i hi => by rw [colX_at (by omega)]; exact (lD i (by omega)).1) (fun i hi => by rw [colZ_at (by omega)]; exact (lD i (by omega)).2)
      (fun i j hi hj => by rw [colX_at (by omega), colZ_at (by omega), colX_at (by omega), colZ_at (by omega)]; exact t.ss i j (by omega) (by omega))
      (fun i j hi hj => by rw [colX_at (by omega), colZ_at (by omega), colX_at (by omega), colZ_at (by omega)]; exact t.dd i j (by omega) (by omega))
      (fun i j hi hj => by rw [colX_at (by omega), colZ_at (by omega), colX_at (by omega), colZ_at (by omega)]; exact t.ds i j (by omega) (by omega))
      zx zz (fun i hi => by rw [colX_at (by omega), colZ_at (by omega)]; exact hc i (by omega) (by omega) (by omega))
    obtain ⟨w1, w2⟩ := walk_comb t z n 0 (unit N) (by omega) rfl rfl
    rw [Nat.zero_add] at w1 w2
    exact ⟨BitVec.eq_of_toNat_eq (w1.trans key.1), BitVec.eq_of_toNat_eq (w2.trans key.2)⟩
  · intro ⟨h1, h2⟩
    cases e : firstPart S z n 0 with
    | none => rfl
    | some j =>
      obtain ⟨_, _, hj, hp⟩ := firstPart_some e
      have := part_walk t z S[j] (fun k hk => t.ss j k hj hk) n 0 (unit N) (by omega) (part_unit _ _)
      unfold part at this hp
      rw [h1, h2] at this
      rw [this] at hp
      cases hp
/-- What a string is to a tableau: 1 it holds, -1 its negative does, 0 neither. -/
def memb (N : Int) (S D : List Pl) (z : Pl) (n : Nat) : Int := match firstPart S z n 0 with
  | some _ => 0
  | none => if (walkS S D z n 0 (unit N)).Ph = z.Ph then 1 else -1
theorem P_Member (F : Nat) (hF : 66 ≤ F) {N : Int} {S D : List Pl} {n : Nat} (hc : chk N S D = true) (t : Tab N S D n) (z : Pl) : Ptableau_Member F N S D z.N z.X z.Z z.Ph = some (if one N z = true then (memb N S D z n, 0) else (0, 2)) := by
  unfold Ptableau_Member
  rw [P_Check F hF, if_pos hc]
  simp only [P_sure F (by omega : 65 ≤ F) t z, P_herm]
  rw [if_pos trivial]
  by_cases h1 : z.N = N
  · rw [if_pos h1]
    cases h2 : z.herm with
    | false =>
      have : ¬ one N z = true := by unfold one; rw [h2]; simp
      rw [if_neg this]; rfl
    | true =>
      have ho : one N z = true := by unfold one; rw [h2, decide_eq_true h1]; rfl
      have fw := first_walk t ho
      rw [if_pos ho, cond_true]
      unfold memb
      cases e : firstPart S z n 0 with
      | none =>
        obtain ⟨w1, w2⟩ := fw.1 e
        rw [if_pos w1, if_pos w2]
        simp only []
        split <;> rfl
      | some j =>
        simp only []
        by_cases g1 : (walkS S D z n 0 (unit N)).X = z.X
        · rw [if_pos g1, if_neg (fun g2 => by rw [fw.2 ⟨g1, g2⟩] at e; cases e)]
        · rw [if_neg g1]
  · have : ¬ one N z = true := by unfold one; rw [decide_eq_false h1]; simp
    rw [if_neg h1, if_neg this]
theorem R_Member (F : Nat) (hF : 66 ≤ F) {N : Int} {S D : List Pl} {n : Nat} (hc : chk N S D = true) (t : Tab N S D n) (z : Pl) : Pref14_Member F N S D z.N z.X z.Z z.Ph = some (if one N z = true then (memb N S D z n, 0) else (0, 2)) := by
  unfold Pref14_Member
  rw [R_Right F hF, hc]
  simp only [R_right F (by omega : 65 ≤ F) z, R_loose F hF t z, R_sign F hF t z, cond_true]
  have ho := one_R N z
  cases h2 : z.ok with
  | false =>
    rw [h2] at ho
    rw [ho]; rfl
  | true =>
    rw [h2] at ho
    rw [cond_true]
    by_cases h1 : z.N = N
    · rw [if_pos h1]
      by_cases h3 : z.Ph.tmod 2 = 1
      · rw [if_pos h3]
        rw [ho, decide_eq_true h1, decide_eq_true h3]; rfl
      · rw [if_neg h3]
        rw [ho, decide_eq_true h1, decide_eq_false h3]
        unfold memb
        cases firstPart S z n 0 with
        | some j => simp only []; rw [if_pos (by omega)]; rfl
        | none => simp only []; rw [if_neg (by omega)]; rfl
    · rw [if_neg h1, ho, decide_eq_false h1]; rfl
end Go.Proofs.YtogkkamlmklpkaaDoor.Ab
/- Plain law: a string put into a tableau (replaced, Force). No condition: lemmas only. -/
set_option maxRecDepth 100000
set_option linter.unusedVariables false
set_option linter.unusedSimpArgs false
namespace Go.Proofs.YtogkkamlmklpkaaDoor.Ab
open Go
/-- Of a list of strings those from i on turned by s where they part with z, all but the p-th. -/
def turnAt (s z : Pl) (p i : Nat) (l : List Pl) : List Pl := if i = p then l else match l[i]? with
  | some v => bif part v z then l.set i (mulP v s) else l
  | none => l
def turnFrom (s z : Pl) (p : Nat) : Nat → Nat → List Pl → List Pl
  | 0, _, l => l
  | m + 1, i, l => turnFrom s z p m (i + 1) (turnAt s z p i l)
theorem turnAt_len {s z : Pl} {p i : Nat} {l : List Pl} : (turnAt s z p i l).length = l.length := by
  unfold turnAt
  split
  · rfl
  · split
    · rename_i v _; cases part v z <;> simp
    · rfl
theorem turnAt_p {s z : Pl} {p : Nat} {l : List Pl} : turnAt s z p p l = l := by unfold turnAt; rw [if_pos rfl]
theorem turnAt_i {s z : Pl} {p i : Nat} {l : List Pl} (h : i ≠ p) (hi : i < l.length) : turnAt s z p i l = bif part l[i] z then l.set i (mulP l[i] s) else l := by
  unfold turnAt; rw [if_neg h, List.getElem?_eq_getElem hi]
theorem turnAt_get {s z : Pl} {p i k : Nat} {l : List Pl} (h : k ≠ i) : (turnAt s z p i l)[k]? = l[k]? := by
  unfold turnAt
  split
  · rfl
  · split
    · rename_i v _
      cases part v z
      · rfl
      · rw [cond_true, List.getElem?_set_ne (Ne.symm h)]
    · rfl
theorem turnFrom_len {s z : Pl} {p : Nat} : ∀ {m i : Nat} {l : List Pl}, (turnFrom s z p m i l).length = l.length
  | 0, _, _ => rfl
  | m + 1, i, l => by rw [turnFrom, turnFrom_len, turnAt_len]
/-- Rows in order. -/
def Rowy (N : Int) (l : List Pl) : Prop := ∀ (k : Nat) (v : Pl), l[k]? = some v → v.ok = true ∧ v.N = N
theorem Rowy.turn {N : Int} {s z : Pl} {p i : Nat} {l : List Pl} (h : Rowy N l) (hs : s.ok = true) (hn : s.N = N) : Rowy N (turnAt s z p i l) := by
  intro k v hv
  by_cases e : k = i
  · subst e
    by_cases e2 : k = p
    · subst e2; rw [turnAt_p] at hv; exact h k v hv
    · have hk : k < l.length := by
        have := (List.getElem?_eq_some_iff.1 hv).1
        rwa [turnAt_len] at this
      obtain ⟨q1, q2⟩ := h k l[k] (List.getElem?_eq_getElem hk)
      rw [turnAt_i e2 hk] at hv
      cases hp : part l[k] z with
      | false => rw [hp] at hv; exact h k v hv
      | true =>
        rw [hp, cond_true, List.getElem?_set_self hk] at hv
        cases hv
        obtain ⟨r1, r2⟩ := mulP_ok q1 hs (q2.trans hn.symm)
        exact ⟨r1, r2.trans q2⟩
  · rw [turnAt_get e] at hv; exact h k v hv
theorem PR3 (F : Nat) (hF : 65 ≤ F) {N : Int} (z s : Pl) (p : Nat) (n : Nat) (hn : n ≤ 64) (hN : N = n) (S D X : List Pl) (hp : p < S.length) (hs : S[p] = s) (o1 : s.ok = true) (o2 : s.N = N) : ∀ (f m i : Nat) (l : List Pl), i + m = n → m < f → l.length = n → Rowy N l →
    Ptableau_replacedL3 F n X z.N z.X z.Z z.Ph p N S D f (i : Int) l = some (turnFrom s z p m i l)
  | 0, m, i, l, _, h, _, _ => by omega
  | f + 1, m, i, l, e, h, hl, hr => by
    unfold Ptableau_replacedL3
    cases m with
    | zero => rw [if_neg (by omega)]; rfl
    | succ m =>
      have i1 : i < l.length := by omega
      obtain ⟨q1, q2⟩ := hr i l[i] (List.getElem?_eq_getElem i1)
      have ih := PR3 F hF z s p n hn hN S D X hp hs o1 o2 f m (i + 1) (turnAt s z p i l) (by omega) (by omega) (by rw [turnAt_len]; exact hl) (hr.turn o1 o2)
      rw [show ((i + 1 : Nat) : Int) = (i : Int) + 1 by omega] at ih
      rw [if_pos (by omega), idx_lt i1, idx_lt hp, hs, turnFrom]
      simp only [P_commute, wrap_id (n := (i : Int) + 1) ⟨by omega, by omega⟩, P_mul F hF l[i] s q1 o1 (q2.trans o2.symm)]
      by_cases hip : i = p
      · rw [if_pos (by omega : (i : Int) = (p : Int))]
        subst hip
        rw [turnAt_p] at ih ⊢
        exact ih
      · rw [if_neg (by omega : ¬ (i : Int) = (p : Int))]
        rw [turnAt_i hip i1] at ih ⊢
        cases hc : part l[i] z with
        | false => rw [hc] at ih; exact ih
        | true => rw [hc] at ih; exact ih
theorem PR4 (F : Nat) (hF : 65 ≤ F) {N : Int} (z s : Pl) (p : Nat) (n : Nat) (hn : n ≤ 64) (hN : N = n) (S D X : List Pl) (hp : p < S.length) (hs : S[p] = s) (o1 : s.ok = true) (o2 : s.N = N) : ∀ (f m i : Nat) (l : List Pl), i + m = n → m < f → l.length = n → Rowy N l →
    Ptableau_replacedL4 F n X z.N z.X z.Z z.Ph p N S D f (i : Int) l = some (turnFrom s z p m i l)
  | 0, m, i, l, _, h, _, _ => by omega
  | f + 1, m, i, l, e, h, hl, hr => by
    unfold Ptableau_replacedL4
    cases m with
    | zero => rw [if_neg (by omega)]; rfl
    | succ m =>
      have i1 : i < l.length := by omega
      obtain ⟨q1, q2⟩ := hr i l[i] (List.getElem?_eq_getElem i1)
      have ih := PR4 F hF z s p n hn hN S D X hp hs o1 o2 f m (i + 1) (turnAt s z p i l) (by omega) (by omega) (by rw [turnAt_len]; exact hl) (hr.turn o1 o2)
      rw [show ((i + 1 : Nat) : Int) = (i : Int) + 1 by omega] at ih
      rw [if_pos (by omega), idx_lt i1, idx_lt hp, hs, turnFrom]
      simp only [P_commute, wrap_id (n := (i : Int) + 1) ⟨by omega, by omega⟩, P_mul F hF l[i] s q1 o1 (q2.trans o2.symm)]
      by_cases hip : i = p
      · rw [if_pos (by omega : (i : Int) = (p : Int))]
        subst hip
        rw [turnAt_p] at ih ⊢
        exact ih
      · rw [if_neg (by omega : ¬ (i : Int) = (p : Int))]
        rw [turnAt_i hip i1] at ih ⊢
        cases hc : part l[i] z with
        | false => rw [hc] at ih; exact ih
        | true => rw [hc] at ih; exact ih
def putS (S : List Pl) (z : Pl) (n p : Nat) : List Pl := match S[p]? with | some s => (turnFrom s z p n 0 S).set p z | none => S
def putD (S D : List Pl) (z : Pl) (n p : Nat) : List Pl := match S[p]? with | some s => (turnFrom s z p n 0 D).set p s | none => D
theorem Tab.rS {N : Int} {S D : List Pl} {n : Nat} (t : Tab N S D n) : Rowy N S := fun k v hv => by
  obtain ⟨h1, h2⟩ := List.getElem?_eq_some_iff.1 hv
  obtain ⟨a, b, _⟩ := one_iff.1 (t.oS k h1)
  rw [← h2]; exact ⟨b, a⟩
theorem Tab.rD {N : Int} {S D : List Pl} {n : Nat} (t : Tab N S D n) : Rowy N D := fun k v hv => by
  obtain ⟨h1, h2⟩ := List.getElem?_eq_some_iff.1 hv
  obtain ⟨a, b, _⟩ := one_iff.1 (t.oD k h1)
  rw [← h2]; exact ⟨b, a⟩
theorem P_copied {N : Int} {S D : List Pl} (h1 : S.length * 32 ≤ 140737488355328) (h2 : D.length * 32 ≤ 140737488355328) : Ptableau_copied N S D = some (N, S, D) := by
  unfold Ptableau_copied
  simp only [h1, h2, if_true]
  by_cases a : S = [] <;> by_cases b : D = [] <;> simp [a, b]
theorem R_Copy {N : Int} {S D : List Pl} (h1 : S.length * 32 ≤ 140737488355328) (h2 : D.length * 32 ≤ 140737488355328) : Pref14_Copy N S D = some (N, S, D) := by
  unfold Pref14_Copy
  simp only [h1, h2, if_true]
  by_cases a : S = [] <;> by_cases b : D = [] <;> simp [a, b]
theorem P_replaced (F : Nat) (hF : 66 ≤ F) {N : Int} {S D : List Pl} {n : Nat} (t : Tab N S D n) (z : Pl) (p : Nat) (hp : p < n) : Ptableau_replaced F N S D p z.N z.X z.Z z.Ph = some (N, putS S z n p, putD S D z n p) := by
  have hle := t.le
  have hs := t.ls
  have hd := t.ld
  have n1 : ¬ S = [] := fun e => by rw [e] at hs; simp at hs; omega
  have n2 : ¬ D = [] := fun e => by rw [e] at hd; simp at hd; omega
  have p1 : p < S.length := by omega
  obtain ⟨o2, o1, _⟩ := one_iff.1 (t.oS p p1)
  have a1 := PR3 F (by omega) z S[p] p n hle t.eN S D D p1 rfl o1 o2 F n 0 S (by omega) (by omega) hs t.rS
  have a2 := PR4 F (by omega) z S[p] p n hle t.eN S D (turnFrom S[p] z p n 0 S) p1 rfl o1 o2 F n 0 D (by omega) (by omega) hd t.rD
  rw [show ((0 : Nat) : Int) = 0 from rfl] at a1 a2
  unfold Ptableau_replaced putS putD
  rw [P_copied (by omega) (by omega)]
  simp only []
  rw [if_neg n1, if_neg n2, show ((S.length : Nat) : Int) = n by rw [hs], show ((D.length : Nat) : Int) = n by rw [hd], a1]
  simp only []
  rw [a2]
  simp only []
  rw [idx_lt p1, idx_lt (l := turnFrom S[p] z p n 0 D) (by rw [turnFrom_len]; omega), idx_lt (l := turnFrom S[p] z p n 0 S) (by rw [turnFrom_len]; omega), List.getElem?_eq_getElem p1]
  simp only [Int.toNat_natCast]
end Go.Proofs.YtogkkamlmklpkaaDoor.Ab
/- Plain law: Force, the program's and the reference's. No condition: lemmas only. -/
set_option maxRecDepth 100000
set_option linter.unusedVariables false
set_option linter.unusedSimpArgs false
namespace Go.Proofs.YtogkkamlmklpkaaDoor.Ab
open Go
theorem RF3 (F : Nat) (hF : 66 ≤ F) {N : Int} {S D : List Pl} {n : Nat} (t : Tab N S D n) (z : Pl) (p : Nat) (hp : p < S.length) (w : Int) : ∀ (f m i : Nat) (l k : List Pl), i + m = n → m < f → l.length = n → k.length = n → (∀ j, i ≤ j → l[j]? = S[j]?) → (∀ j, i ≤ j → k[j]? = D[j]?) →
    Pref14_ForceL3 F p N S D z.N z.X z.Z z.Ph 0 w f (i : Int) l k = some (turnFrom S[p] z p m i l, turnFrom S[p] z p m i k)
  | 0, m, i, l, k, _, h, _, _, _, _ => by omega
  | f + 1, m, i, l, k, e, h, hl, hk, gl, gk => by
    have hle := t.le
    have hN := t.eN
    have hS := t.ls
    have hD := t.ld
    unfold Pref14_ForceL3
    cases m with
    | zero => rw [if_neg (by omega)]; rfl
    | succ m =>
      have i1 : i < S.length := by omega
      have i2 : i < D.length := by omega
      have i3 : i < l.length := by omega
      have i4 : i < k.length := by omega
      have e3 : l[i] = S[i] := by
        have := gl i (Nat.le_refl _)
        rw [List.getElem?_eq_getElem i3, List.getElem?_eq_getElem i1] at this
        exact Option.some.inj this
      have e4 : k[i] = D[i] := by
        have := gk i (Nat.le_refl _)
        rw [List.getElem?_eq_getElem i4, List.getElem?_eq_getElem i2] at this
        exact Option.some.inj this
      obtain ⟨a1, a2, _⟩ := one_iff.1 (t.oS i i1)
      obtain ⟨b1, b2, _⟩ := one_iff.1 (t.oD i i2)
      obtain ⟨c1, c2, _⟩ := one_iff.1 (t.oS p hp)
      have ih := RF3 F hF t z p hp w f m (i + 1) (turnAt S[p] z p i l) (turnAt S[p] z p i k) (by omega) (by omega) (by rw [turnAt_len]; exact hl) (by rw [turnAt_len]; exact hk)
        (fun j hj => by rw [turnAt_get (by omega)]; exact gl j (by omega)) (fun j hj => by rw [turnAt_get (by omega)]; exact gk j (by omega))
      rw [show ((i + 1 : Nat) : Int) = (i : Int) + 1 by omega] at ih
      have w1 : IntKind.i64.wrap ((i : Int) + 1) = (i : Int) + 1 := wrap_id ⟨by omega, by omega⟩
      rw [if_pos (by omega), turnFrom, turnFrom]
      by_cases hip : i = p
      · rw [if_pos (by omega : (i : Int) = (p : Int)), w1]
        subst hip
        rw [turnAt_p, turnAt_p] at ih ⊢
        exact ih
      · rw [if_neg (by omega : ¬ (i : Int) = (p : Int)), idx_lt i1]
        simp only [R_commute F (by omega : 65 ≤ F), idx_lt i2, idx_lt hp, idx_lt i3, idx_lt i4, w1, R_times F hF S[i] S[p] a2 c2 (a1.trans c1.symm), R_times F hF D[i] S[p] b2 c2 (b1.trans c1.symm)]
        rw [turnAt_i hip i3, turnAt_i hip i4, e3, e4] at ih ⊢
        cases hc : part S[i] z with
        | false =>
          cases hd : part D[i] z with
          | false => rw [hc, hd] at ih; exact ih
          | true => rw [hc, hd] at ih; exact ih
        | true =>
          cases hd : part D[i] z with
          | false => rw [hc, hd] at ih; exact ih
          | true => rw [hc, hd] at ih; exact ih
/-- A string forced: the tableau after, what it answered, the error. -/
def force (N : Int) (S D : List Pl) (z : Pl) (n : Nat) : Int × List Pl × List Pl × Int × Int :=
  if one N z = true then
    match firstPart S z n 0 with
    | some p => (N, putS S z n p, putD S D z n p, 1, 0)
    | none => if (walkS S D z n 0 (unit N)).Ph = z.Ph then (N, S, D, 0, 0) else (0, [], [], 0, 142)
  else (0, [], [], 0, 2)
theorem P_Force (F : Nat) (hF : 66 ≤ F) {N : Int} {S D : List Pl} {n : Nat} (hc : chk N S D = true) (t : Tab N S D n) (z : Pl) : Ptableau_Force F N S D z.N z.X z.Z z.Ph = some (force N S D z n) := by
  have hle := t.le
  have hS := t.ls
  have hD := t.ld
  have pf := PF0 t z F n 0 (by omega) (by omega)
  rw [show ((0 : Nat) : Int) = 0 from rfl] at pf
  unfold Ptableau_Force force
  rw [P_Member F hF hc t z, P_copied (by omega) (by omega), show ((S.length : Nat) : Int) = n by rw [hS], pf]
  by_cases ho : one N z = true
  · rw [if_pos ho, if_pos ho]
    unfold memb
    cases e : firstPart S z n 0 with
    | some p =>
      obtain ⟨_, hp, _⟩ := firstPart_some e
      simp only []
      rw [P_replaced F hF t z p (by omega)]
      rfl
    | none =>
      simp only []
      by_cases q : (walkS S D z n 0 (unit N)).Ph = z.Ph
      · rw [if_pos q, if_pos q]; rfl
      · rw [if_neg q, if_neg q]; rfl
  · rw [if_neg ho, if_neg ho]; rfl
theorem putS_len {S : List Pl} {z : Pl} {n p : Nat} : (putS S z n p).length = S.length := by
  unfold putS; split
  · rw [List.length_set, turnFrom_len]
  · rfl
theorem putD_len {S D : List Pl} {z : Pl} {n p : Nat} : (putD S D z n p).length = D.length := by
  unfold putD; split
  · rw [List.length_set, turnFrom_len]
  · rfl
theorem R_Force (F : Nat) (hF : 66 ≤ F) {N : Int} {S D : List Pl} {n : Nat} (hc : chk N S D = true) (t : Tab N S D n) (z : Pl) : Pref14_Force F N S D z.N z.X z.Z z.Ph = some (force N S D z n) := by
  have hle := t.le
  have hS := t.ls
  have hD := t.ld
  unfold Pref14_Force force
  rw [R_Member F hF hc t z, R_Copy (by omega) (by omega), R_loose F hF t z]
  by_cases ho : one N z = true
  · rw [if_pos ho, if_pos ho]
    unfold memb
    cases e : firstPart S z n 0 with
    | some p =>
      obtain ⟨_, hp, hp2, _⟩ := firstPart_some e
      have n1 : ¬ S = [] := fun e => by rw [e] at hS; simp at hS; omega
      have n2 : ¬ D = [] := fun e => by rw [e] at hD; simp at hD; omega
      have rf := RF3 F hF t z p hp2 N F n 0 S D (by omega) (by omega) hS hD (fun _ _ => rfl) (fun _ _ => rfl)
      rw [show ((0 : Nat) : Int) = 0 from rfl] at rf
      simp only [rf]
      rw [if_pos trivial, if_neg (by omega), if_neg n1, if_neg n2, if_neg (by omega), idx_lt hp2, idx_lt (l := turnFrom S[p] z p n 0 D) (by rw [turnFrom_len]; omega), idx_lt (l := turnFrom S[p] z p n 0 S) (by rw [turnFrom_len]; omega)]
      simp only [Int.toNat_natCast]
      unfold putS putD
      rw [List.getElem?_eq_getElem hp2]
    | none =>
      simp only []
      by_cases q : (walkS S D z n 0 (unit N)).Ph = z.Ph
      · rw [if_pos q, if_pos q]
        by_cases a : S = [] <;> by_cases b : D = [] <;> simp [a, b]
      · rw [if_neg q, if_neg q]; rfl
  · rw [if_neg ho, if_neg ho]; rfl
theorem P_Force0 (F : Nat) (hF : 66 ≤ F) {N : Int} {S D : List Pl} (hc : chk N S D = false) (z : Pl) : Ptableau_Force F N S D z.N z.X z.Z z.Ph = some (0, [], [], 0, 140) := by
  unfold Ptableau_Force Ptableau_Member
  rw [P_Check F hF, hc]
  rfl
theorem R_Force0 (F : Nat) (hF : 66 ≤ F) {N : Int} {S D : List Pl} (hc : chk N S D = false) (z : Pl) : Pref14_Force F N S D z.N z.X z.Z z.Ph = some (0, [], [], 0, 140) := by
  unfold Pref14_Force Pref14_Member
  rw [R_Right F hF, hc]
  rfl
end Go.Proofs.YtogkkamlmklpkaaDoor.Ab
/- Plain law: a tableau with a string put in is in order again; Overlap; the law of Force. No condition: lemmas only. -/
set_option maxRecDepth 100000
set_option linter.unusedVariables false
set_option linter.unusedSimpArgs false
namespace Go.Proofs.YtogkkamlmklpkaaDoor.Ab
open Go
theorem tab_chk {N : Int} {S D : List Pl} {n : Nat} (t : Tab N S D n) : chk N S D = true := by
  have hN := t.eN
  have hle := t.le
  have hS := t.ls
  have hD := t.ld
  unfold chk
  simp only [Bool.and_eq_true, decide_eq_true_eq]
  refine ⟨⟨⟨⟨by omega, by omega⟩, by omega⟩, by omega⟩, allFrom_iff.2 fun k _ h => ?_, allFrom_iff.2 fun k _ h => allFrom_iff.2 fun j _ h' => ?_⟩
  · have k1 : k < S.length := by omega
    have k2 : k < D.length := by omega
    unfold oneAt
    rw [List.getElem?_eq_getElem k1, List.getElem?_eq_getElem k2]
    simp only [t.oS k k1, t.oD k k2, Bool.and_self]
  · have k1 : k < S.length := by omega
    have k2 : k < D.length := by omega
    have j1 : j < S.length := by omega
    have j2 : j < D.length := by omega
    unfold two
    rw [List.getElem?_eq_getElem k1, List.getElem?_eq_getElem k2, List.getElem?_eq_getElem j1, List.getElem?_eq_getElem j2]
    simp only [t.ss k j k1 j1, t.dd k j k2 j2, t.ds k j k2 j1, Bool.not_false, Bool.true_and, beq_self_eq_true]
theorem turnFrom_get {s z : Pl} {p : Nat} : ∀ {m i : Nat} {l : List Pl} {k : Nat}, (turnFrom s z p m i l)[k]? = if i ≤ k ∧ k < i + m then (turnAt s z p k l)[k]? else l[k]?
  | 0, i, l, k => by rw [if_neg (by omega)]; rfl
  | m + 1, i, l, k => by
    rw [turnFrom, turnFrom_get]
    by_cases h1 : i + 1 ≤ k ∧ k < i + 1 + m
    · rw [if_pos h1, if_pos (by omega)]
      have hk : (turnAt s z p i l)[k]? = l[k]? := turnAt_get (by omega)
      have : ∀ l' : List Pl, l'[k]? = l[k]? → (turnAt s z p k l')[k]? = (turnAt s z p k l)[k]? := fun l' e => by
        unfold turnAt
        by_cases e2 : k = p
        · rw [if_pos e2, if_pos e2]; exact e
        · rw [if_neg e2, if_neg e2, e]
          cases hl : l[k]? with
          | none => simp only []; rw [e, hl]
          | some v =>
            simp only []
            cases part v z with
            | false => simp only [cond_false]; rw [e, hl]
            | true =>
              obtain ⟨a, _⟩ := List.getElem?_eq_some_iff.1 hl
              obtain ⟨b, _⟩ := List.getElem?_eq_some_iff.1 (e.trans hl)
              simp only [cond_true]
              rw [List.getElem?_set_self a, List.getElem?_set_self b]
      exact this _ hk
    · rw [if_neg h1]
      by_cases h2 : k = i
      · subst h2; rw [if_pos (by omega)]
      · rw [if_neg (by omega), turnAt_get h2]
/-- A row of the tableau after. -/
def rowT (s z v : Pl) : Pl := bif part v z then mulP v s else v
theorem turnFrom_row {s z : Pl} {p n : Nat} {l : List Pl} (hl : l.length = n) {k : Nat} (hk : k < n) (hp : k ≠ p) : (turnFrom s z p n 0 l)[k]? = some (rowT s z (l[k]'(by omega))) := by
  have k1 : k < l.length := by omega
  rw [turnFrom_get, if_pos (by omega), turnAt_i hp k1]
  unfold rowT
  cases part l[k] z with
  | false => simp only [cond_false]; rw [List.getElem?_eq_getElem k1]
  | true => simp only [cond_true]; rw [List.getElem?_set_self k1]
theorem mul_even {p q : Pl} (hp : p.ok = true) (hq : q.ok = true) (h1 : p.Ph % 2 = 0) (h2 : q.Ph % 2 = 0) (hc : part p q = false) : (mulP p q).Ph % 2 = 0 := by
  obtain ⟨_, _, p1, p2, _, _⟩ := ok_iff.1 hp
  obtain ⟨_, _, q1, q2, _, _⟩ := ok_iff.1 hq
  have ho := ps_odd 64 p.X.toNat p.Z.toNat q.X.toNat q.Z.toNat p.X.isLt p.Z.isLt q.X.isLt q.Z.isLt
  unfold part om at hc
  rw [decide_eq_false_iff_not] at hc
  show (p.Ph + q.Ph + (ps 64 p.X.toNat p.Z.toNat q.X.toNat q.Z.toNat : Nat)) % 4 % 2 = 0
  generalize ps 64 p.X.toNat p.Z.toNat q.X.toNat q.Z.toNat = a at *
  generalize popN ((p.X.toNat &&& q.Z.toNat) ^^^ (p.Z.toNat &&& q.X.toNat)) = b at *
  omega
/-- The letters alone. -/
def vec (p : Pl) : Nat × Nat := (p.X.toNat, p.Z.toNat)
theorem part_vec (p q : Pl) : part p q = omv (vec p) (vec q) := rfl
theorem vec_mul (p q : Pl) : vec (mulP p q) = vx (vec p) (vec q) := by unfold vec vx mulP; simp only [BitVec.toNat_xor]
theorem vec_row (s z v : Pl) : vec (rowT s z v) = turned (vec s) (vec z) (vec v) := by
  unfold rowT turned
  rw [← part_vec]
  cases part v z with
  | false => rfl
  | true => rw [cond_true, cond_true, vec_mul]
def vecs (l : List Pl) (i : Nat) : Nat × Nat := match l[i]? with | some p => vec p | none => (0, 0)
theorem vecs_at {l : List Pl} {i : Nat} (h : i < l.length) : vecs l i = vec l[i] := by unfold vecs; rw [List.getElem?_eq_getElem h]
theorem Tab.sym {N : Int} {S D : List Pl} {n : Nat} (t : Tab N S D n) : Sym n (vecs S) (vecs D) := by
  have hS := t.ls
  have hD := t.ld
  exact ⟨fun i j hi hj => by rw [vecs_at (by omega), vecs_at (by omega)]; exact t.ss i j (by omega) (by omega),
    fun i j hi hj => by rw [vecs_at (by omega), vecs_at (by omega)]; exact t.dd i j (by omega) (by omega),
    fun i j hi hj => by rw [vecs_at (by omega), vecs_at (by omega)]; exact t.ds i j (by omega) (by omega)⟩
theorem tab_put {N : Int} {S D : List Pl} {n : Nat} (t : Tab N S D n) {z : Pl} (hz : one N z = true) {p : Nat} (hp : p < n) (hz2 : part (S[p]'(by rw [t.ls]; exact hp)) z = true) : Tab N (putS S z n p) (putD S D z n p) n := by
  have hS := t.ls
  have hD := t.ld
  have p1 : p < S.length := by omega
  have eS : ∀ i (hi : i < n), (putS S z n p)[i]? = some (if i = p then z else rowT S[p] z (S[i]'(by rw [hS]; exact hi))) := fun i hi => by
    unfold putS
    rw [List.getElem?_eq_getElem p1]
    simp only []
    by_cases e : i = p
    · subst e; rw [if_pos rfl, List.getElem?_set_self (by rw [turnFrom_len]; omega)]
    · rw [if_neg e, List.getElem?_set_ne (Ne.symm e), turnFrom_row hS hi e]
  have eD : ∀ i (hi : i < n), (putD S D z n p)[i]? = some (if i = p then S[p] else rowT S[p] z (D[i]'(by rw [hD]; exact hi))) := fun i hi => by
    unfold putD
    rw [List.getElem?_eq_getElem p1]
    simp only []
    by_cases e : i = p
    · subst e; rw [if_pos rfl, List.getElem?_set_self (by rw [turnFrom_len]; omega)]
    · rw [if_neg e, List.getElem?_set_ne (Ne.symm e), turnFrom_row hD hi e]
  have lS : (putS S z n p).length = n := by rw [putS_len]; exact hS
  have lD : (putD S D z n p).length = n := by rw [putD_len]; exact hD
  have gS : ∀ i (h : i < (putS S z n p).length), (putS S z n p)[i] = if i = p then z else rowT S[p] z (S[i]'(by omega)) := fun i h => by
    have := eS i (by rw [lS] at h; exact h)
    rw [List.getElem?_eq_getElem h] at this
    exact Option.some.inj this
  have gD : ∀ i (h : i < (putD S D z n p).length), (putD S D z n p)[i] = if i = p then S[p] else rowT S[p] z (D[i]'(by omega)) := fun i h => by
    have := eD i (by rw [lD] at h; exact h)
    rw [List.getElem?_eq_getElem h] at this
    exact Option.some.inj this
  obtain ⟨s1, s2, s3⟩ := one_iff.1 (t.oS p p1)
  have oneRow : ∀ v : Pl, one N v = true → part v S[p] = false → one N (rowT S[p] z v) = true := fun v hv hc => by
    unfold rowT
    cases part v z with
    | false => exact hv
    | true =>
      obtain ⟨v1, v2, v3⟩ := one_iff.1 hv
      obtain ⟨m1, m2⟩ := mulP_ok v2 s2 (v1.trans s1.symm)
      exact one_iff.2 ⟨m2.trans v1, m1, mul_even v2 s2 v3 s3 hc⟩
  have sym := t.sym.put hp (z := vec z) (by rw [vecs_at p1]; exact hz2)
  have vS : ∀ i (h : i < (putS S z n p).length), vec (putS S z n p)[i] = (fun i => if i = p then vec z else turned (vecs S p) (vec z) (vecs S i)) i := fun i h => by
    rw [gS i h]
    by_cases e : i = p
    · simp only [e, if_true]
    · simp only [if_neg e]
      rw [vec_row, vecs_at p1, vecs_at]
  have vD : ∀ i, (h : i < (putD S D z n p).length) → vec (putD S D z n p)[i] = (fun i => if i = p then vecs S p else turned (vecs S p) (vec z) (vecs D i)) i := fun i h => by
    rw [gD i h]
    by_cases e : i = p
    · simp only [e, if_true]; rw [vecs_at p1]
    · simp only [if_neg e]
      rw [vec_row, vecs_at p1, vecs_at]
  refine ⟨t.eN, t.le, lS, lD, fun i h => ?_, fun i h => ?_, fun i j h k => ?_, fun i j h k => ?_, fun i j h k => ?_⟩
  · rw [gS i h]
    by_cases e : i = p
    · rw [if_pos e]; exact hz
    · rw [if_neg e]; exact oneRow _ (t.oS i (by omega)) (t.ss i p (by omega) p1)
  · rw [gD i h]
    by_cases e : i = p
    · rw [if_pos e]; exact t.oS p p1
    · rw [if_neg e]; exact oneRow _ (t.oD i (by omega)) (by rw [t.ds i p (by omega) p1]; exact decide_eq_false e)
  · rw [part_vec, vS i h, vS j k]; exact sym.ss i j (by omega) (by omega)
  · rw [part_vec, vD i h, vD j k]; exact sym.dd i j (by omega) (by omega)
  · rw [part_vec, vD i h, vS j k]; exact sym.ds i j (by omega) (by omega)
end Go.Proofs.YtogkkamlmklpkaaDoor.Ab
/- Plain law: Overlap; the law of Force comes to true. No condition: lemmas only. -/
set_option maxRecDepth 100000
set_option linter.unusedVariables false
set_option linter.unusedSimpArgs false
namespace Go.Proofs.YtogkkamlmklpkaaDoor.Ab
open Go
theorem same_rows (l : List Pl) (hl : l.length < 4611686018427387904) : ∀ (f m i : Nat), i + m = l.length → m < f → Pref14_SameRowsL0 l l f (i : Int) = some (.inr ())
  | 0, m, i, _, h => by omega
  | f + 1, m, i, e, h => by
    unfold Pref14_SameRowsL0
    cases m with
    | zero => rw [if_neg (by omega)]
    | succ m =>
      have ih := same_rows l hl f m (i + 1) (by omega) (by omega)
      rw [show ((i + 1 : Nat) : Int) = (i : Int) + 1 by omega] at ih
      rw [if_pos (by omega), idx_lt (by omega : i < l.length)]
      simp only [decide_true, Bool.and_self, cond_true, wrap_id (n := (i : Int) + 1) ⟨by omega, by omega⟩]
      exact ih
theorem R_SameRows (F : Nat) (l : List Pl) (hl : l.length < 4611686018427387904) (hF : l.length < F) : Pref14_SameRows F l l = some true := by
  have := same_rows l hl F l.length 0 (by omega) hF
  rw [show ((0 : Nat) : Int) = 0 from rfl] at this
  unfold Pref14_SameRows
  rw [if_pos rfl, this]
theorem R_Alike (F : Nat) (N : Int) (S D : List Pl) (h1 : S.length < 4611686018427387904) (h2 : D.length < 4611686018427387904) (k1 : S.length < F) (k2 : D.length < F) : Pref14_Alike F N S D N S D = some true := by
  unfold Pref14_Alike
  rw [if_pos rfl, R_SameRows F S h1 k1, R_SameRows F D h2 k2]
  rfl
/-- The two loops of Overlap. -/
theorem over (F : Nat) (hF : 66 ≤ F) {N : Int} {S' D' : List Pl} {n : Nat} (t' : Tab N S' D' n) : ∀ (f m i : Nat) (acc : Int) (S D : List Pl), i + m = n → m < f → Tab N S D n →
    ∃ r, Ptableau_OverlapL0 F S' n f acc (i : Int) N S D = some r ∧ Pref14_OverlapL0 F N S' D' f acc (i : Int) N S D = some r
  | 0, m, i, acc, S, D, _, h, _ => by omega
  | f + 1, m, i, acc, S, D, e, h, t => by
    have hN := t.eN
    have hle := t.le
    have hS := t'.ls
    unfold Ptableau_OverlapL0 Pref14_OverlapL0
    cases m with
    | zero => exact ⟨.inr acc, by rw [if_neg (by omega)], by rw [if_neg (by omega)]⟩
    | succ m =>
      have i1 : i < S'.length := by omega
      have ho := t'.oS i i1
      rw [if_pos (by omega), if_pos (by omega), idx_lt i1]
      simp only [P_Force F hF (tab_chk t) t, R_Force F hF (tab_chk t) t, wrap_id (n := (i : Int) + 1) ⟨by omega, by omega⟩]
      unfold force
      rw [if_pos ho]
      have hc : ((i + 1 : Nat) : Int) = (i : Int) + 1 := by omega
      cases ef : firstPart S S'[i] n 0 with
      | some p =>
        obtain ⟨_, hp, hp2, hp3⟩ := firstPart_some ef
        obtain ⟨r, e1, e2⟩ := over F hF t' f m (i + 1) (IntKind.i64.wrap (acc + 1)) (putS S S'[i] n p) (putD S D S'[i] n p) (by omega) (by omega) (tab_put t ho (by omega) hp3)
        rw [hc] at e1 e2
        exact ⟨r, by simp only []; rw [if_pos trivial]; exact e1, by simp only []; rw [if_neg (by omega)]; exact e2⟩
      | none =>
        simp only []
        by_cases q : (walkS S D S'[i] n 0 (unit N)).Ph = S'[i].Ph
        · obtain ⟨r, e1, e2⟩ := over F hF t' f m (i + 1) (IntKind.i64.wrap (acc + 0)) S D (by omega) (by omega) t
          rw [hc] at e1 e2
          rw [if_pos q]
          exact ⟨r, by simp only []; rw [if_pos trivial]; exact e1, by simp only []; rw [if_neg (by omega)]; exact e2⟩
        · rw [if_neg q]
          exact ⟨.inl (-1), by simp only []; rw [if_neg (by omega)], by simp only []; rw [if_pos trivial]⟩
theorem overlap (F : Nat) (hF : 66 ≤ F) (N M : Int) (S D S' D' : List Pl) : ∃ a b, Ptableau_Overlap F N S D M S' D' = some (a, b) ∧ Pref14_Overlap F N S D M S' D' = some (a, b) := by
  unfold Ptableau_Overlap Pref14_Overlap
  rw [P_Check F hF, P_Check F hF, R_Right F hF, R_Right F hF]
  cases h1 : chk N S D with
  | false => exact ⟨0, 140, rfl, rfl⟩
  | true =>
    cases h2 : chk M S' D' with
    | false => exact ⟨0, 140, rfl, rfl⟩
    | true =>
      simp only [if_true, cond_true]
      by_cases hN : N = M
      · subst hN
        rw [if_pos rfl, if_pos rfl]
        obtain ⟨n, t⟩ := chk_tab h1
        obtain ⟨n', t'⟩ := chk_tab h2
        obtain rfl : n = n' := by have := t.eN; have := t'.eN; omega
        have hle := t.le
        obtain ⟨r, e1, e2⟩ := over F hF t' F n 0 0 S D (by omega) (by omega) t
        rw [show ((0 : Nat) : Int) = 0 from rfl] at e1 e2
        rw [show ((S'.length : Nat) : Int) = (n : Int) by rw [t'.ls], e1, e2]
        cases r with
        | inl a => exact ⟨a, 0, rfl, rfl⟩
        | inr a => exact ⟨a, 0, rfl, rfl⟩
      · rw [if_neg hN, if_neg hN]
        exact ⟨0, 2, rfl, rfl⟩
/-- The law of Force. -/
theorem law_forces (F : Nat) (N M : Int) (S D S' D' : List Pl) (z : Pl) (hF : 66 ≤ F) (l1 : S.length * 32 ≤ 140737488355328) (l2 : D.length * 32 ≤ 140737488355328) (l3 : S'.length * 32 ≤ 140737488355328) (l4 : D'.length * 32 ≤ 140737488355328)
    (f1 : S.length < F) (f2 : D.length < F) (f3 : S'.length < F) (f4 : D'.length < F) : Plaw14_TableauForces F N S D z.N z.X z.Z z.Ph M S' D' = some true := by
  unfold Plaw14_TableauForces
  rw [R_Copy l1 l2, R_Copy l3 l4]
  obtain ⟨a, b, o1, o2⟩ := overlap F hF N M S D S' D'
  have a1 := R_Alike F N S D (by omega) (by omega) f1 f2
  have a2 := R_Alike F M S' D' (by omega) (by omega) f3 f4
  have key : ∃ (r1 : Int) (r2 r3 : List Pl) (r4 r5 : Int), Ptableau_Force F N S D z.N z.X z.Z z.Ph = some (r1, r2, r3, r4, r5) ∧ Pref14_Force F N S D z.N z.X z.Z z.Ph = some (r1, r2, r3, r4, r5) ∧ Pref14_Alike F r1 r2 r3 r1 r2 r3 = some true := by
    cases h1 : chk N S D with
    | false => exact ⟨_, _, _, _, _, P_Force0 F hF h1 z, R_Force0 F hF h1 z, R_Alike F _ _ _ (by simp) (by simp) (by simp; omega) (by simp; omega)⟩
    | true =>
      obtain ⟨n, t⟩ := chk_tab h1
      have hle := t.le
      have hS := t.ls
      have hD := t.ld
      have e1 := P_Force F hF h1 t z
      have e2 := R_Force F hF h1 t z
      unfold force at e1 e2
      by_cases ho : one N z = true
      · rw [if_pos ho] at e1 e2
        cases ef : firstPart S z n 0 with
        | some p =>
          rw [ef] at e1 e2
          exact ⟨_, _, _, _, _, e1, e2, R_Alike F _ _ _ (by rw [putS_len]; omega) (by rw [putD_len]; omega) (by rw [putS_len]; omega) (by rw [putD_len]; omega)⟩
        | none =>
          rw [ef] at e1 e2
          simp only [] at e1 e2
          by_cases q : (walkS S D z n 0 (unit N)).Ph = z.Ph
          · rw [if_pos q] at e1 e2
            exact ⟨_, _, _, _, _, e1, e2, a1⟩
          · rw [if_neg q] at e1 e2
            exact ⟨_, _, _, _, _, e1, e2, R_Alike F _ _ _ (by simp) (by simp) (by simp; omega) (by simp; omega)⟩
      · rw [if_neg ho] at e1 e2
        exact ⟨_, _, _, _, _, e1, e2, R_Alike F _ _ _ (by simp) (by simp) (by simp; omega) (by simp; omega)⟩
  obtain ⟨r1, r2, r3, r4, r5, e1, e2, e3⟩ := key
  simp only [e1, e2, o1, o2, e3, a1, a2, Plaw14_num, cond_true, if_true]
end Go.Proofs.YtogkkamlmklpkaaDoor.Ab
/- Plain law: the strings multiply as a group does: associative, commuting strings commute, an even string's square is nothing. No condition: lemmas only. -/
set_option maxRecDepth 100000
set_option linter.unusedVariables false
set_option linter.unusedSimpArgs false
namespace Go.Proofs.YtogkkamlmklpkaaDoor.Ab
open Go
theorem pw_mod (a b c d : Nat) : pw a b c d = pw (a % 2) (b % 2) (c % 2) (d % 2) := by
  unfold pw
  simp only [Nat.mod_mod]
theorem xor_mod2 (a b : Nat) : (a ^^^ b) % 2 = (a % 2 ^^^ b % 2) % 2 := by
  have h1 := Nat.mod_two_eq_zero_or_one a
  have h2 := Nat.mod_two_eq_zero_or_one b
  have h3 : (a ^^^ b).testBit 0 = (a.testBit 0 ^^ b.testBit 0) := Nat.testBit_xor a b 0
  rw [Nat.testBit_zero, Nat.testBit_zero, Nat.testBit_zero] at h3
  have h4 := Nat.mod_two_eq_zero_or_one (a ^^^ b)
  rcases h1 with h1 | h1 <;> rcases h2 with h2 | h2 <;> rcases h4 with h4 | h4 <;> simp [h1, h2, h4] at h3 ⊢
theorem pw_assoc (a b c d e f : Nat) : (pw a b c d + pw (a ^^^ c) (b ^^^ d) e f) % 4 = (pw c d e f + pw a b (c ^^^ e) (d ^^^ f)) % 4 := by
  rw [pw_mod a b c d, pw_mod (a ^^^ c) (b ^^^ d) e f, pw_mod c d e f, pw_mod a b (c ^^^ e) (d ^^^ f), xor_mod2 a c, xor_mod2 b d, xor_mod2 c e, xor_mod2 d f]
  have h1 := Nat.mod_two_eq_zero_or_one a
  have h2 := Nat.mod_two_eq_zero_or_one b
  have h3 := Nat.mod_two_eq_zero_or_one c
  have h4 := Nat.mod_two_eq_zero_or_one d
  have h5 := Nat.mod_two_eq_zero_or_one e
  have h6 := Nat.mod_two_eq_zero_or_one f
  rcases h1 with h1 | h1 <;> rcases h2 with h2 | h2 <;> rcases h3 with h3 | h3 <;> rcases h4 with h4 | h4 <;> rcases h5 with h5 | h5 <;> rcases h6 with h6 | h6 <;> rw [h1, h2, h3, h4, h5, h6] <;> rfl
theorem ps_assoc : ∀ (k a b c d e f : Nat), (ps k a b c d + ps k (a ^^^ c) (b ^^^ d) e f) % 4 = (ps k c d e f + ps k a b (c ^^^ e) (d ^^^ f)) % 4
  | 0, _, _, _, _, _, _ => rfl
  | k + 1, a, b, c, d, e, f => by
    have h1 := pw_assoc a b c d e f
    have h2 := ps_assoc k (a / 2) (b / 2) (c / 2) (d / 2) (e / 2) (f / 2)
    simp only [ps, Nat.xor_div_two]
    omega
theorem mulP_assoc (p q r : Pl) : mulP (mulP p q) r = mulP p (mulP q r) := by
  have h := ps_assoc 64 p.X.toNat p.Z.toNat q.X.toNat q.Z.toNat r.X.toNat r.Z.toNat
  unfold mulP
  simp only [BitVec.toNat_xor, BitVec.xor_assoc, Pl.mk.injEq, true_and]
  generalize ps 64 p.X.toNat p.Z.toNat q.X.toNat q.Z.toNat = a at *
  generalize ps 64 (p.X.toNat ^^^ q.X.toNat) (p.Z.toNat ^^^ q.Z.toNat) r.X.toNat r.Z.toNat = b at *
  generalize ps 64 q.X.toNat q.Z.toNat r.X.toNat r.Z.toNat = c at *
  generalize ps 64 p.X.toNat p.Z.toNat (q.X.toNat ^^^ r.X.toNat) (q.Z.toNat ^^^ r.Z.toNat) = d at *
  omega
/-- Strings that do not part commute. -/
theorem mulP_comm {p q : Pl} (hn : p.N = q.N) (hc : part p q = false) : mulP p q = mulP q p := by
  have ho := ps_odd 64 p.X.toNat p.Z.toNat q.X.toNat q.Z.toNat p.X.isLt p.Z.isLt q.X.isLt q.Z.isLt
  have ht := ps_turn 64 p.X.toNat p.Z.toNat q.X.toNat q.Z.toNat
  unfold part om at hc
  rw [decide_eq_false_iff_not] at hc
  unfold mulP
  rw [hn, BitVec.xor_comm p.X, BitVec.xor_comm p.Z]
  simp only [Pl.mk.injEq, true_and]
  generalize ps 64 p.X.toNat p.Z.toNat q.X.toNat q.Z.toNat = a at *
  generalize ps 64 q.X.toNat q.Z.toNat p.X.toNat p.Z.toNat = b at *
  generalize popN ((p.X.toNat &&& q.Z.toNat) ^^^ (p.Z.toNat &&& q.X.toNat)) = c at *
  omega
theorem pw_self (a b : Nat) : pw a b a b = 0 := by unfold pw; rw [if_pos (.inr (.inr ⟨rfl, rfl⟩))]
theorem ps_self : ∀ (k a b : Nat), ps k a b a b = 0
  | 0, _, _ => rfl
  | k + 1, a, b => by simp only [ps, pw_self, ps_self k]
theorem ps_zero : ∀ (k a b : Nat), ps k 0 0 a b = 0
  | 0, _, _ => rfl
  | k + 1, a, b => by
    have : pw 0 0 a b = 0 := pw_zero _ _ _ _ (.inl ⟨rfl, rfl⟩)
    simp only [ps, this, Nat.zero_div, ps_zero k]
/-- An even string's square. -/
theorem mulP_self {p : Pl} (h : p.Ph % 2 = 0) : mulP p p = unit p.N := by
  unfold mulP unit
  rw [ps_self, BitVec.xor_self, BitVec.xor_self]
  simp only [Pl.mk.injEq, true_and]
  omega
theorem mulP_unit_l {p : Pl} (h1 : 0 ≤ p.Ph) (h2 : p.Ph ≤ 3) : mulP (unit p.N) p = p := by
  unfold mulP unit
  obtain ⟨N, X, Z, Ph⟩ := p
  simp only [show (0#64).toNat = 0 from rfl, ps_zero, BitVec.zero_xor, Pl.mk.injEq, true_and]
  simp only at h1 h2
  omega
end Go.Proofs.YtogkkamlmklpkaaDoor.Ab
/- Plain law: products of stabilizers, over a tableau and over the one after a string was put in. No condition: lemmas only. -/
set_option maxRecDepth 100000
set_option linter.unusedVariables false
set_option linter.unusedSimpArgs false
namespace Go.Proofs.YtogkkamlmklpkaaDoor.Ab
open Go
/-- The product of those strings that c names, one behind the other. -/
def cprod (s : Nat → Pl) (c : Nat → Bool) : Nat → Pl → Pl
  | 0, a => a
  | k + 1, a => bif c k then mulP (cprod s c k a) (s k) else cprod s c k a
/-- Turned by a string, or not. -/
def tw (s : Pl) (b : Bool) (a : Pl) : Pl := bif b then mulP a s else a
theorem cprod_succ (s : Nat → Pl) (c : Nat → Bool) (k : Nat) (a : Pl) : cprod s c (k + 1) a = tw (s k) (c k) (cprod s c k a) := rfl
theorem ps_zero_r : ∀ (k a b : Nat), ps k a b 0 0 = 0
  | 0, _, _ => rfl
  | k + 1, a, b => by
    have : pw a b 0 0 = 0 := pw_zero _ _ _ _ (.inr ⟨rfl, rfl⟩)
    simp only [ps, this, Nat.zero_div, ps_zero_r k]
theorem mulP_unit_r {p : Pl} {M : Int} (h1 : 0 ≤ p.Ph) (h2 : p.Ph ≤ 3) : mulP p (unit M) = p := by
  unfold mulP unit
  obtain ⟨N, X, Z, Ph⟩ := p
  simp only [show (0#64).toNat = 0 from rfl, ps_zero_r, BitVec.xor_zero, Pl.mk.injEq, true_and]
  simp only at h1 h2
  omega
theorem mulP_ph (p q : Pl) : 0 ≤ (mulP p q).Ph ∧ (mulP p q).Ph ≤ 3 := by
  constructor
  · show 0 ≤ (_ : Int) % 4; omega
  · show (_ : Int) % 4 ≤ 3; omega
theorem tw_ph {s a : Pl} {b : Bool} (h : 0 ≤ a.Ph ∧ a.Ph ≤ 3) : 0 ≤ (tw s b a).Ph ∧ (tw s b a).Ph ≤ 3 := by
  unfold tw
  cases b with
  | false => exact h
  | true => exact mulP_ph _ _
theorem tw_tw {s a : Pl} {b c : Bool} (hs : s.Ph % 2 = 0) (h : 0 ≤ a.Ph ∧ a.Ph ≤ 3) : tw s b (tw s c a) = tw s (b ^^ c) a := by
  unfold tw
  cases b <;> cases c <;> simp only [cond_true, cond_false, Bool.xor_false, Bool.false_xor, Bool.xor_self, Bool.true_xor, Bool.not_true, Bool.not_false]
  rw [mulP_assoc, mulP_self hs, mulP_unit_r h.1 h.2]
theorem tw_comm {s x a : Pl} {b c : Bool} (hn : s.N = x.N) (hc : part s x = false) : tw x c (tw s b a) = tw s b (tw x c a) := by
  unfold tw
  cases b <;> cases c <;> simp only [cond_true, cond_false]
  rw [mulP_assoc, mulP_assoc, mulP_comm hn hc]
theorem cprod_ph {s : Nat → Pl} {c : Nat → Bool} {a : Pl} (h : 0 ≤ a.Ph ∧ a.Ph ≤ 3) : ∀ k, 0 ≤ (cprod s c k a).Ph ∧ (cprod s c k a).Ph ≤ 3
  | 0 => h
  | k + 1 => by rw [cprod_succ]; exact tw_ph (cprod_ph h k)
theorem cprod_tw {s : Nat → Pl} {c : Nat → Bool} {x a : Pl} {b : Bool} : ∀ k, (∀ j, j < k → x.N = (s j).N ∧ part x (s j) = false) → cprod s c k (tw x b a) = tw x b (cprod s c k a)
  | 0, _ => rfl
  | k + 1, h => by
    rw [cprod_succ, cprod_succ, cprod_tw k (fun j hj => h j (by omega)), tw_comm (h k (by omega)).1 (h k (by omega)).2]
theorem cprod_congr {s s' : Nat → Pl} {c c' : Nat → Bool} {a : Pl} : ∀ k, (∀ j, j < k → c j = c' j ∧ (c j = true → s j = s' j)) → cprod s c k a = cprod s' c' k a
  | 0, _ => rfl
  | k + 1, h => by
    rw [cprod_succ, cprod_succ, cprod_congr k (fun j hj => h j (by omega))]
    obtain ⟨h1, h2⟩ := h k (by omega)
    rw [← h1]
    unfold tw
    cases e : c k with
    | false => rfl
    | true => rw [cond_true, cond_true, h2 e]
/-- How many of the named strings are turned: odd? -/
def xs (c b : Nat → Bool) : Nat → Bool
  | 0 => false
  | k + 1 => xs c b k ^^ (c k && b k)
/-- Strings turned by s: their product is the old one turned as often. -/
theorem cprod_turn {s : Nat → Pl} {c b : Nat → Bool} {x a : Pl} (hx : x.Ph % 2 = 0) (ha : 0 ≤ a.Ph ∧ a.Ph ≤ 3) : ∀ k, (∀ j, j < k → x.N = (s j).N ∧ part x (s j) = false) →
    cprod (fun j => tw x (b j) (s j)) c k a = tw x (xs c b k) (cprod s c k a)
  | 0, _ => rfl
  | k + 1, h => by
    rw [cprod_succ, cprod_succ, cprod_turn hx ha k (fun j hj => h j (by omega))]
    obtain ⟨h1, h2⟩ := h k (by omega)
    show tw (tw x (b k) (s k)) (c k) (tw x (xs c b k) (cprod s c k a)) = tw x (xs c b k ^^ (c k && b k)) (tw (s k) (c k) (cprod s c k a))
    have hp := cprod_ph (s := s) (c := c) ha k
    generalize cprod s c k a = A at *
    cases e : c k with
    | false => simp only [Bool.false_and, Bool.xor_false]; rfl
    | true =>
      simp only [Bool.true_and]
      have e1 : tw (tw x (b k) (s k)) true (tw x (xs c b k) A) = tw x (b k) (tw (s k) true (tw x (xs c b k) A)) := by
        unfold tw
        cases b k with
        | false => rfl
        | true => simp only [cond_true]; rw [mulP_assoc]
      rw [e1, tw_comm h1 h2, tw_tw hx (tw_ph hp), Bool.xor_comm]
/-- One string, taken out of the row and put behind. -/
theorem cprod_out {s : Nat → Pl} {c : Nat → Bool} {a : Pl} {p : Nat} (ha : 0 ≤ a.Ph ∧ a.Ph ≤ 3) : ∀ k, (∀ j, j < k → (s p).N = (s j).N ∧ part (s p) (s j) = false) →
    cprod s c k a = tw (s p) (decide (p < k) && c p) (cprod s (fun j => c j && !decide (j = p)) k a)
  | 0, _ => by simp [cprod, tw]
  | k + 1, h => by
    obtain ⟨h1, h2⟩ := h k (by omega)
    rw [cprod_succ, cprod_succ, cprod_out ha k (fun j hj => h j (by omega))]
    by_cases e : k = p
    · subst e
      rw [decide_eq_false (by omega : ¬ k < k), decide_eq_true (by omega : k < k + 1)]
      simp [tw]
    · rw [decide_eq_false e, tw_comm h1 h2]
      have : decide (p < k) = decide (p < k + 1) := by
        by_cases q : p < k
        · rw [decide_eq_true q, decide_eq_true (by omega)]
        · rw [decide_eq_false q, decide_eq_false (by omega)]
      rw [this]
      simp
/-- What parts with a product. -/
theorem part_cprod {s : Nat → Pl} {c : Nat → Bool} {a m : Pl} : ∀ k, part m (cprod s c k a) = (xs c (fun j => part m (s j)) k ^^ part m a)
  | 0 => by simp [cprod, xs]
  | k + 1 => by
    rw [cprod_succ, xs, tw]
    cases c k with
    | false => rw [cond_false, part_cprod k]; simp
    | true =>
      rw [cond_true, part_mul, part_cprod k, Bool.true_and]
      cases xs c (fun j => part m (s j)) k <;> cases part m a <;> cases part m (s k) <;> rfl
theorem xs_congr {c c' b b' : Nat → Bool} : ∀ k, (∀ j, j < k → (c j && b j) = (c' j && b' j)) → xs c b k = xs c' b' k
  | 0, _ => rfl
  | k + 1, h => by rw [xs, xs, xs_congr k (fun j hj => h j (by omega)), h k (by omega)]
theorem xs_out {c b : Nat → Bool} {p : Nat} : ∀ k, xs c b k = (xs (fun j => c j && !decide (j = p)) b k ^^ (decide (p < k) && (c p && b p)))
  | 0 => by simp [xs]
  | k + 1 => by
    rw [xs, xs, xs_out k (p := p)]
    by_cases e : k = p
    · subst e
      rw [decide_eq_false (by omega : ¬ k < k), decide_eq_true (by omega : k < k + 1)]
      simp
    · rw [decide_eq_false e]
      have : decide (p < k) = decide (p < k + 1) := by
        by_cases q : p < k
        · rw [decide_eq_true q, decide_eq_true (by omega)]
        · rw [decide_eq_false q, decide_eq_false (by omega)]
      rw [this]
      simp only [Bool.not_false, Bool.and_true]
      cases xs (fun j => c j && !decide (j = p)) b k <;> cases (c k && b k) <;> cases (decide (p < k + 1) && (c p && b p)) <;> rfl
/-- The walk is such a product. -/
def sAt (S : List Pl) (j : Nat) : Pl := match S[j]? with | some s => s | none => unit 0
theorem sAt_lt {S : List Pl} {j : Nat} (h : j < S.length) : sAt S j = S[j] := by unfold sAt; rw [List.getElem?_eq_getElem h]
theorem walk_from {S D : List Pl} {z : Pl} : ∀ (m i : Nat) (a : Pl), i + m ≤ S.length → i + m ≤ D.length → ∀ u, a = cprod (sAt S) (fun j => part (sAt D j) z) i u → walkS S D z m i a = cprod (sAt S) (fun j => part (sAt D j) z) (i + m) u
  | 0, i, a, _, _, u, e => e
  | m + 1, i, a, h1, h2, u, e => by
    rw [walkS, show i + (m + 1) = i + 1 + m by omega]
    refine walk_from m (i + 1) _ (by omega) (by omega) u ?_
    rw [stepS_at (by omega) (by omega), cprod_succ, ← e, sAt_lt (by omega), sAt_lt (by omega)]
    rfl
theorem walk_cprod {S D : List Pl} {z : Pl} {n : Nat} (h1 : n ≤ S.length) (h2 : n ≤ D.length) (u : Pl) : walkS S D z n 0 u = cprod (sAt S) (fun j => part (sAt D j) z) n u := by
  have := walk_from (S := S) (D := D) (z := z) n 0 u (by omega) (by omega) u rfl
  rwa [Nat.zero_add] at this
end Go.Proofs.YtogkkamlmklpkaaDoor.Ab
/- Plain law: what a measurement may give (Odds) and what comes of it (Project), the program's and the reference's. No condition: lemmas only. -/
set_option maxRecDepth 100000
set_option linter.unusedVariables false
set_option linter.unusedSimpArgs false
namespace Go.Proofs.YtogkkamlmklpkaaDoor.Ab
open Go
/-- Z at a qubit, its phase for a value. -/
def zq (N : Int) (q : Nat) (v : Int) : Pl := ⟨N, 0#64, 1#64 <<< q, v⟩
theorem tn_bit {q : Nat} (h : q < 64) : (1#64 <<< q).toNat = 2 ^ q := by
  rw [BitVec.toNat_shiftLeft, Nat.shiftLeft_eq, show (1#64).toNat = 1 from rfl, Nat.one_mul, Nat.mod_eq_of_lt (Nat.pow_lt_pow_right (by omega) h)]
theorem popN_bit : ∀ (q : Nat) (b : Bool), popN (b.toNat * 2 ^ q) = b.toNat
  | 0, b => by cases b <;> simp [popN]
  | q + 1, b => by
    rw [popN_eq]
    have e1 : b.toNat * 2 ^ (q + 1) % 2 = 0 := by rw [Nat.pow_succ, ← Nat.mul_assoc]; exact Nat.mul_mod_left ..
    have e2 : b.toNat * 2 ^ (q + 1) / 2 = b.toNat * 2 ^ q := by rw [Nat.pow_succ, ← Nat.mul_assoc]; exact Nat.mul_div_cancel _ (by omega)
    rw [e1, e2, popN_bit q b, Nat.zero_add]
theorem and_bit (x q : Nat) : x &&& 2 ^ q = (x.testBit q).toNat * 2 ^ q := by
  apply Nat.eq_of_testBit_eq
  intro i
  rw [Nat.testBit_and, Nat.testBit_two_pow]
  cases h : x.testBit q with
  | false =>
    rw [show (false : Bool).toNat * 2 ^ q = 0 by simp, Nat.zero_testBit]
    by_cases e : q = i
    · subst e; rw [h]; rfl
    · rw [decide_eq_false e, Bool.and_false]
  | true =>
    rw [show (true : Bool).toNat * 2 ^ q = 2 ^ q by simp, Nat.testBit_two_pow]
    by_cases e : q = i
    · subst e; rw [h]; rfl
    · rw [decide_eq_false e, Bool.and_false]
theorem bit_dec (x : BitVec 64) (q : Nat) : decide (((x >>> q) &&& 1#64) = 1#64) = x.toNat.testBit q := by
  have h1 : ((x >>> q) &&& 1#64).toNat = x.toNat / 2 ^ q % 2 := by
    rw [BitVec.toNat_and, tn_shr]
    exact Nat.and_one_is_mod _
  rw [Nat.testBit_eq_decide_div_mod_eq]
  apply decide_eq_decide.2
  constructor
  · intro h; rw [h] at h1; exact h1.symm
  · intro h; exact BitVec.eq_of_toNat_eq (by rw [h1, h]; rfl)
theorem part_zq {N : Int} {q : Nat} {v : Int} (hq : q < 64) (p : Pl) : part p (zq N q v) = decide (((p.X >>> q) &&& 1#64) = 1#64) := by
  rw [bit_dec]
  unfold part zq om
  simp only []
  rw [tn_bit hq, show (0#64).toNat = 0 from rfl, Nat.and_zero, Nat.xor_zero, and_bit, popN_bit]
  cases p.X.toNat.testBit q <;> rfl
theorem zq_one {N : Int} {n q : Nat} {v : Int} (hN : N = n) (hn : n ≤ 64) (hq : q < n) (hv : v = 0 ∨ v = 2) : one N (zq N q v) = true := by
  have : (2 : Nat) ^ q < 2 ^ n := Nat.pow_lt_pow_right (by omega) hq
  refine one_iff.2 ⟨rfl, ok_iff.2 ⟨?_, ?_, ?_, ?_, ?_, ?_⟩, ?_⟩ <;> simp only [zq]
  · omega
  · omega
  · omega
  · omega
  · exact Nat.two_pow_pos _
  · rw [tn_bit (by omega), hN, Int.toNat_natCast]; exact this
  · omega
theorem firstPart_congr {S : List Pl} {z z' : Pl} (h : ∀ s, part s z = part s z') : ∀ {m i : Nat}, firstPart S z m i = firstPart S z' m i
  | 0, _ => rfl
  | m + 1, i => by
    rw [firstPart, firstPart, firstPart_congr h]
    cases S[i]? with
    | none => rfl
    | some s => simp only [h s]
theorem walkS_congr {S D : List Pl} {z z' : Pl} (h : ∀ s, part s z = part s z') : ∀ {m i : Nat} {a : Pl}, walkS S D z m i a = walkS S D z' m i a
  | 0, _, _ => rfl
  | m + 1, i, a => by
    rw [walkS, walkS, walkS_congr h]
    congr 1
    unfold stepS
    split
    · simp only [h]
    · rfl
theorem part_zv (N : Int) (q : Nat) (v : Int) (s : Pl) : part s (zq N q v) = part s (zq N q 0) := rfl
theorem walk_even {N : Int} {S D : List Pl} {n : Nat} (t : Tab N S D n) (z : Pl) : ∀ (m i : Nat) (a : Pl), i + m ≤ n → a.ok = true → a.N = N → a.Ph % 2 = 0 → (∀ j (h : j < S.length), part S[j] a = false) → (walkS S D z m i a).Ph % 2 = 0 ∧ (walkS S D z m i a).ok = true ∧ (walkS S D z m i a).N = N
  | 0, i, a, _, h1, h2, h3, _ => ⟨h3, h1, h2⟩
  | m + 1, i, a, e, h1, h2, h3, h4 => by
    have hs := t.ls
    have hd := t.ld
    have i1 : i < S.length := by omega
    have i2 : i < D.length := by omega
    have hk := stepS_ok t (z := z) (a := a) (i := i) (by omega) h1 h2
    rw [walkS]
    refine walk_even t z m (i + 1) _ (by omega) hk.1 hk.2 ?_ ?_
    · rw [stepS_at i1 i2]
      cases part D[i] z with
      | false => exact h3
      | true =>
        obtain ⟨_, o2, o3⟩ := one_iff.1 (t.oS i i1)
        exact mul_even h1 o2 h3 o3 (by rw [part_vec, omv_comm, ← part_vec]; exact h4 i i1)
    · intro j hj
      rw [stepS_at i1 i2]
      cases part D[i] z with
      | false => exact h4 j hj
      | true => rw [cond_true, part_mul, h4 j hj, t.ss j i hj i1]; rfl
theorem walk_even0 {N : Int} {S D : List Pl} {n : Nat} (t : Tab N S D n) (z : Pl) : (walkS S D z n 0 (unit N)).Ph % 2 = 0 ∧ (walkS S D z n 0 (unit N)).ok = true ∧ (walkS S D z n 0 (unit N)).N = N := by
  obtain ⟨u1, u2⟩ := unit_ok t
  exact walk_even t z n 0 (unit N) (by omega) u1 u2 rfl (fun j hj => part_unit _ _)
/-- What a measurement may give. -/
def odds (N : Int) (S D : List Pl) (q n : Nat) : Int := match firstPart S (zq N q 0) n 0 with
  | some _ => 2
  | none => if (walkS S D (zq N q 0) n 0 (unit N)).Ph = 0 then 0 else 1
theorem PO0 {N : Int} {S D : List Pl} {n : Nat} (t : Tab N S D n) (q : Nat) (hq : q < 64) : ∀ (f m i : Nat), i + m = n → m < f →
    Ptableau_openL0 S (q : Int) (n : Int) f (i : Int) = some (match firstPart S (zq N q 0) m i with | some j => .inl (j : Int) | none => .inr ())
  | 0, m, i, _, h => by omega
  | f + 1, m, i, e, h => by
    have hle := t.le
    unfold Ptableau_openL0
    cases m with
    | zero => rw [if_neg (by omega)]; rfl
    | succ m =>
      have i1 : i < S.length := by rw [t.ls]; omega
      have ih := PO0 t q hq f m (i + 1) (by omega) (by omega)
      rw [show ((i + 1 : Nat) : Int) = (i : Int) + 1 by omega] at ih
      rw [if_pos (by omega), idx_lt i1]
      simp only [Int.toNat_natCast, wrap_id (n := (i : Int) + 1) ⟨by omega, by omega⟩]
      rw [if_neg (by omega), firstPart_at i1, part_zq hq]
      by_cases hb : ((S[i].X >>> q) &&& 1#64) = 1#64
      · rw [if_pos hb, decide_eq_true hb]; rfl
      · rw [if_neg hb, decide_eq_false hb]; exact ih
theorem P_open (F : Nat) (hF : 66 ≤ F) {N : Int} {S D : List Pl} {n : Nat} (t : Tab N S D n) (q : Nat) (hq : q < 64) : Ptableau_open F N S D (q : Int) = some (match firstPart S (zq N q 0) n 0 with | some j => (j : Int) | none => -1) := by
  have hle := t.le
  have := PO0 t q hq F n 0 (by omega) (by omega)
  rw [show ((0 : Nat) : Int) = 0 from rfl] at this
  unfold Ptableau_open
  rw [show ((S.length : Nat) : Int) = n by rw [t.ls], this]
  cases firstPart S (zq N q 0) n 0 <;> rfl
theorem P_asked (F : Nat) (hF : 66 ≤ F) (N : Int) (S D : List Pl) (q : Int) : Ptableau_asked F N S D q = some (if chk N S D = true then (if q < 0 then 2 else if q ≥ N then 2 else 0) else 140) := by
  unfold Ptableau_asked
  rw [P_Check F hF]
  cases chk N S D with
  | false => rfl
  | true =>
    simp only [if_true]
    by_cases h1 : q < 0
    · rw [if_pos h1, if_pos h1]
    · rw [if_neg h1, if_neg h1]
      by_cases h2 : q ≥ N
      · rw [if_pos h2, if_pos h2]
      · rw [if_neg h2, if_neg h2]
/-- Odds, of any tableau. -/
def oddsA (N : Int) (S D : List Pl) (q : Int) : Int × Int := if chk N S D = true then (if q < 0 then (0, 2) else if q ≥ N then (0, 2) else (odds N S D q.toNat S.length, 0)) else (0, 140)
theorem P_Odds (F : Nat) (hF : 66 ≤ F) (N : Int) (S D : List Pl) (q : Int) : Ptableau_Odds F N S D q = some (oddsA N S D q) := by
  unfold Ptableau_Odds oddsA
  rw [P_asked F hF]
  cases hc : chk N S D with
  | false => rfl
  | true =>
    obtain ⟨n, t⟩ := chk_tab hc
    have hN := t.eN
    have hle := t.le
    simp only [if_true]
    by_cases h1 : q < 0
    · simp only [if_pos h1]; rfl
    · by_cases h2 : q ≥ N
      · simp only [if_neg h1, if_pos h2]; rfl
      · simp only [if_neg h1, if_neg h2, if_true]
        obtain ⟨k, rfl⟩ : ∃ k : Nat, q = (k : Int) := ⟨q.toNat, by omega⟩
        rw [P_open F hF t k (by omega), Int.toNat_natCast, t.ls]
        have ps := P_sure F (by omega : 65 ≤ F) t (zq N k 0)
        unfold odds
        cases e : firstPart S (zq N k 0) n 0 with
        | some j => simp only []; rw [if_pos (by omega)]
        | none =>
          simp only []
          rw [if_neg (by omega)]
          have ps' : Ptableau_sure F N S D N 0#64 (1#64 <<< k) 0 = _ := ps
          rw [ps']
          obtain ⟨w1, w2, _⟩ := walk_even0 t (zq N k 0)
          obtain ⟨_, _, w3, w4, _, _⟩ := ok_iff.1 w2
          simp only []
          generalize (walkS S D (zq N k 0) n 0 (unit N)).Ph = ph at *
          have : ph = 0 ∨ ph = 2 := by omega
          rcases this with rfl | rfl <;> rfl
theorem R_letter (N : Int) (q : Nat) (hq : q < 64) : Pref14_letter N (q : Int) false = (N, 0#64, 1#64 <<< q, 0) := by
  unfold Pref14_letter
  have : (BitVec.ofInt 64 (q : Int)).toNat = q := by rw [BitVec.ofInt_natCast, BitVec.toNat_ofNat, Nat.mod_eq_of_lt (by omega)]
  rw [this]; rfl
theorem R_Odds (F : Nat) (hF : 66 ≤ F) (N : Int) (S D : List Pl) (q : Int) : Pref14_Odds F N S D q = some (oddsA N S D q) := by
  unfold Pref14_Odds oddsA
  rw [R_Right F hF]
  cases hc : chk N S D with
  | false => rfl
  | true =>
    obtain ⟨n, t⟩ := chk_tab hc
    have hN := t.eN
    have hle := t.le
    simp only [if_true, cond_true]
    by_cases h1 : q < 0
    · rw [if_pos h1, if_pos h1]
    · by_cases h2 : q ≥ N
      · rw [if_neg h1, if_pos h2, if_neg h1, if_pos h2]
      · rw [if_neg h1, if_neg h2, if_neg h1, if_neg h2]
        obtain ⟨k, rfl⟩ : ∃ k : Nat, q = (k : Int) := ⟨q.toNat, by omega⟩
        rw [R_letter N k (by omega), Int.toNat_natCast, t.ls]
        have l1 : Pref14_loose F N S D N 0#64 (1#64 <<< k) 0 = _ := R_loose F hF t (zq N k 0)
        have l2 : Pref14_sign F N S D N 0#64 (1#64 <<< k) 0 = _ := R_sign F hF t (zq N k 0)
        simp only [l1, l2]
        unfold odds
        cases e : firstPart S (zq N k 0) n 0 with
        | some j => simp only []; rw [if_pos (by omega)]
        | none =>
          simp only []
          rw [if_neg (by omega)]
          by_cases hp : (walkS S D (zq N k 0) n 0 (unit N)).Ph = 0
          · rw [if_pos hp, if_pos (show _ = (zq N k 0).Ph from hp), if_neg (by omega)]
          · rw [if_neg hp, if_neg (show ¬ _ = (zq N k 0).Ph from hp), if_pos (by omega)]
/-- Project. -/
def proj (N : Int) (S D : List Pl) (q n : Nat) (v : Int) : Int × List Pl × List Pl × Int :=
  if odds N S D q n = 1 - v then (0, [], [], 142)
  else match firstPart S (zq N q 0) n 0 with
    | none => (N, S, D, 0)
    | some p => (N, putS S (zq N q (2 * v)) n p, putD S D (zq N q (2 * v)) n p, 0)
def projA (N : Int) (S D : List Pl) (q v : Int) : Int × List Pl × List Pl × Int :=
  if chk N S D = true then (if q < 0 then (0, [], [], 2) else if q ≥ N then (0, [], [], 2) else if v = 0 ∨ v = 1 then proj N S D q.toNat S.length v else (0, [], [], 2)) else (0, [], [], 140)
theorem odds_cases {N : Int} {S D : List Pl} {q n : Nat} : (odds N S D q n = 2 ∧ ∃ p, firstPart S (zq N q 0) n 0 = some p) ∨ ((odds N S D q n = 0 ∨ odds N S D q n = 1) ∧ firstPart S (zq N q 0) n 0 = none) := by
  unfold odds
  cases firstPart S (zq N q 0) n 0 with
  | some p => exact .inl ⟨rfl, p, rfl⟩
  | none =>
    refine .inr ⟨?_, rfl⟩
    simp only []
    split
    · exact .inl rfl
    · exact .inr rfl
theorem P_Project (F : Nat) (hF : 66 ≤ F) (N : Int) (S D : List Pl) (q v : Int) : Ptableau_Project F N S D q v = some (projA N S D q v) := by
  unfold Ptableau_Project projA
  rw [P_Odds F hF]
  unfold oddsA
  cases hc : chk N S D with
  | false => rfl
  | true =>
    obtain ⟨n, t⟩ := chk_tab hc
    have hN := t.eN
    have hle := t.le
    have hs := t.ls
    have hd := t.ld
    simp only [if_true]
    by_cases h1 : q < 0
    · rw [if_pos h1, if_pos h1]; rfl
    · by_cases h2 : q ≥ N
      · rw [if_neg h1, if_pos h2, if_neg h1, if_pos h2]; rfl
      · rw [if_neg h1, if_neg h2, if_neg h1, if_neg h2]
        obtain ⟨k, rfl⟩ : ∃ k : Nat, q = (k : Int) := ⟨q.toNat, by omega⟩
        rw [Int.toNat_natCast, hs]
        simp only [if_true]
        have op := P_open F hF t k (by omega)
        have cp := P_copied (N := N) (S := S) (D := D) (by omega) (by omega)
        have rp : ∀ (p : Nat) (hp : p < n) (w : Int), Ptableau_replaced F N S D p N 0#64 (1#64 <<< k) w = some (N, putS S (zq N k w) n p, putD S D (zq N k w) n p) := fun p hp w => P_replaced F hF t (zq N k w) p hp
        have key : ∀ w : Int, w = 0 ∨ w = 1 → (if odds N S D k n = IntKind.i64.wrap (1 - w) then some ((0 : Int), ([] : List Pl), ([] : List Pl), (142 : Int))
            else if odds N S D k n = w then match Ptableau_copied N S D with
              | none => none
              | some (r3, r4, r5) => some (r3, r4, r5, (0 : Int))
            else match Ptableau_open F N S D (k : Int) with
              | none => none
              | some r6 => (if (k : Int) < (0 : Int) then none
                else match Ptableau_replaced F N S D r6 N 0#64 (1#64 <<< (k : Int).toNat) (IntKind.i64.wrap ((2 : Int) * w)) with
                | none => none
                | some (r7, r8, r9) => some (r7, r8, r9, (0 : Int)))) = some (proj N S D k n w) := fun w hw => by
          rw [wrap_id (n := 1 - w) ⟨by omega, by omega⟩, wrap_id (n := 2 * w) ⟨by omega, by omega⟩, Int.toNat_natCast]
          unfold proj
          by_cases g1 : odds N S D k n = 1 - w
          · rw [if_pos g1, if_pos g1]
          · rw [if_neg g1, if_neg g1, op, cp]
            rcases odds_cases (N := N) (S := S) (D := D) (q := k) (n := n) with ⟨o1, p, o2⟩ | ⟨o1, o2⟩
            · rw [o2]
              obtain ⟨_, hp, _⟩ := firstPart_some o2
              rw [if_neg (by omega)]
              simp only []
              rw [if_neg (by omega), rp p (by omega)]
            · rw [o2, if_pos (by omega)]
        by_cases e0 : v = 0
        · subst e0
          rw [if_pos (rfl : (0 : Int) = 0), if_pos (show (0 : Int) = 0 ∨ (0 : Int) = 1 from .inl rfl)]
          exact key 0 (.inl rfl)
        · rw [if_neg e0]
          by_cases e1 : v = 1
          · subst e1
            rw [if_pos (rfl : (1 : Int) = 1), if_pos (show (1 : Int) = 0 ∨ (1 : Int) = 1 from .inr rfl)]
            exact key 1 (.inr rfl)
          · rw [if_neg e1, if_neg (by omega)]
end Go.Proofs.YtogkkamlmklpkaaDoor.Ab
