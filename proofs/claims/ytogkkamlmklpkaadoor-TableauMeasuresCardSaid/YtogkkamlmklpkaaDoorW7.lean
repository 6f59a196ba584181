/- Plain law: a string that parts with no stabilizer is their product (but for its sign): Member. No condition: lemmas only. -/
import Derived.Test.YtogkkamlmklpkaaDoorW6
set_option maxRecDepth 100000
set_option linter.unusedVariables false
set_option linter.unusedSimpArgs false
namespace Go.Proofs.YtogkkamlmklpkaaDoor.Ab
open Go
/-- The first stabilizer that parts with a string. -/
def firstPart (S : List Pl) (z : Pl) : Nat → Nat → Option Nat
  | 0, _ => none
  | m + 1, i => match S[i]? with
    | some s => bif part s z then some i else firstPart S z m (i + 1)
    | none => none
theorem firstPart_some {S : List Pl} {z : Pl} : ∀ {m i j : Nat}, firstPart S z m i = some j → i ≤ j ∧ j < i + m ∧ ∃ h : j < S.length, part S[j] z = true
  | 0, i, j, h => by cases h
  | m + 1, i, j, h => by
    unfold firstPart at h
    cases e : S[i]? with
    | none => rw [e] at h; cases h
    | some s =>
      rw [e] at h
      simp only [] at h
      obtain ⟨hl, hs⟩ := List.getElem?_eq_some_iff.1 e
      cases hp : part s z with
      | true => rw [hp] at h; cases h; exact ⟨by omega, by omega, hl, by rw [hs]; exact hp⟩
      | false =>
        rw [hp] at h
        obtain ⟨a, b, c⟩ := firstPart_some h
        exact ⟨by omega, by omega, c⟩
theorem firstPart_none {S : List Pl} {z : Pl} : ∀ {m i : Nat}, i + m ≤ S.length → firstPart S z m i = none → ∀ j (h : j < S.length), i ≤ j → j < i + m → part S[j] z = false
  | 0, i, _, _, j, _, _, _ => by omega
  | m + 1, i, hl, h, j, hj, h1, h2 => by
    unfold firstPart at h
    have i1 : i < S.length := by omega
    rw [List.getElem?_eq_getElem i1] at h
    simp only [] at h
    cases hp : part S[i] z with
    | true => rw [hp] at h; cases h
    | false =>
      rw [hp] at h
      by_cases e : j = i
      · subst e; exact hp
      · exact firstPart_none (by omega) h j hj (by omega) (by omega)
theorem firstPart_at {S : List Pl} {z : Pl} {m i : Nat} (h : i < S.length) : firstPart S z (m + 1) i = bif part S[i] z then some i else firstPart S z m (i + 1) := by rw [firstPart, List.getElem?_eq_getElem h]
theorem RL0 (F : Nat) (hF : 65 ≤ F) {N : Int} {S D : List Pl} {n : Nat} (t : Tab N S D n) (z : Pl) : ∀ (f m i : Nat), i + m = n → m < f →
    Pref14_looseL0 F N S D z.N z.X z.Z z.Ph f (i : Int) = some (match firstPart S z m i with | some j => .inl (j : Int) | none => .inr ())
  | 0, m, i, _, h => by omega
  | f + 1, m, i, e, h => by
    have hle := t.le
    have hN := t.eN
    unfold Pref14_looseL0
    cases m with
    | zero => rw [if_neg (by omega)]; rfl
    | succ m =>
      have i1 : i < S.length := by rw [t.ls]; omega
      have ih := RL0 F hF t z f m (i + 1) (by omega) (by omega)
      rw [show ((i + 1 : Nat) : Int) = (i : Int) + 1 by omega] at ih
      rw [if_pos (by omega), idx_lt i1]
      simp only [R_commute F hF, wrap_id (n := (i : Int) + 1) ⟨by omega, by omega⟩]
      rw [firstPart_at i1]
      cases hc : part S[i] z with
      | false => exact ih
      | true => rfl
theorem R_loose (F : Nat) (hF : 66 ≤ F) {N : Int} {S D : List Pl} {n : Nat} (t : Tab N S D n) (z : Pl) : Pref14_loose F N S D z.N z.X z.Z z.Ph = some (match firstPart S z n 0 with | some j => (j : Int) | none => -1) := by
  have hle := t.le
  have := RL0 F (by omega) t z F n 0 (by omega) (by omega)
  rw [show ((0 : Nat) : Int) = 0 from rfl] at this
  unfold Pref14_loose
  rw [this]
  cases firstPart S z n 0 <;> rfl
theorem PF0 {N : Int} {S D : List Pl} {n : Nat} (t : Tab N S D n) (z : Pl) : ∀ (f m i : Nat), i + m = n → m < f →
    Ptableau_ForceL0 S z.N z.X z.Z z.Ph (n : Int) f (i : Int) = some (match firstPart S z m i with | some j => .inl (j : Int) | none => .inr ())
  | 0, m, i, _, h => by omega
  | f + 1, m, i, e, h => by
    have hle := t.le
    unfold Ptableau_ForceL0
    cases m with
    | zero => rw [if_neg (by omega)]; rfl
    | succ m =>
      have i1 : i < S.length := by rw [t.ls]; omega
      have ih := PF0 t z f m (i + 1) (by omega) (by omega)
      rw [show ((i + 1 : Nat) : Int) = (i : Int) + 1 by omega] at ih
      rw [if_pos (by omega), idx_lt i1]
      simp only [P_commute, wrap_id (n := (i : Int) + 1) ⟨by omega, by omega⟩]
      rw [firstPart_at i1]
      cases hc : part S[i] z with
      | false => exact ih
      | true => rfl
/-! ### The span -/
theorem part_mul (p a s : Pl) : part p (mulP a s) = (part p a ^^ part p s) := by
  unfold part mulP
  simp only [BitVec.toNat_xor]
  exact om_xor ..
theorem part_unit (p : Pl) (N : Int) : part p (unit N) = false := om_zero ..
theorem part_walk {N : Int} {S D : List Pl} {n : Nat} (t : Tab N S D n) (z p : Pl) (hp : ∀ j (h : j < S.length), part p S[j] = false) : ∀ (m i : Nat) (a : Pl), i + m ≤ n → part p a = false → part p (walkS S D z m i a) = false
  | 0, i, a, _, h => h
  | m + 1, i, a, e, h => by
    have i1 : i < S.length := by rw [t.ls]; omega
    have i2 : i < D.length := by rw [t.ld]; omega
    rw [walkS]
    refine part_walk t z p hp m (i + 1) _ (by omega) ?_
    rw [stepS_at i1 i2]
    cases part D[i] z with
    | false => exact h
    | true => rw [cond_true, part_mul, h, hp i i1]; rfl
def colX (S : List Pl) (i : Nat) : Nat := match S[i]? with | some s => s.X.toNat | none => 0
def colZ (S : List Pl) (i : Nat) : Nat := match S[i]? with | some s => s.Z.toNat | none => 0
theorem colX_at {S : List Pl} {i : Nat} (h : i < S.length) : colX S i = S[i].X.toNat := by unfold colX; rw [List.getElem?_eq_getElem h]
theorem colZ_at {S : List Pl} {i : Nat} (h : i < S.length) : colZ S i = S[i].Z.toNat := by unfold colZ; rw [List.getElem?_eq_getElem h]
theorem walk_comb {N : Int} {S D : List Pl} {n : Nat} (t : Tab N S D n) (z : Pl) : ∀ (m i : Nat) (a : Pl), i + m ≤ n →
    a.X.toNat = comb (colX S) (fun j => om (colX D j) (colZ D j) z.X.toNat z.Z.toNat) i → a.Z.toNat = comb (colZ S) (fun j => om (colX D j) (colZ D j) z.X.toNat z.Z.toNat) i →
    (walkS S D z m i a).X.toNat = comb (colX S) (fun j => om (colX D j) (colZ D j) z.X.toNat z.Z.toNat) (i + m) ∧ (walkS S D z m i a).Z.toNat = comb (colZ S) (fun j => om (colX D j) (colZ D j) z.X.toNat z.Z.toNat) (i + m)
  | 0, i, a, _, h1, h2 => ⟨h1, h2⟩
  | m + 1, i, a, e, h1, h2 => by
    have i1 : i < S.length := by rw [t.ls]; omega
    have i2 : i < D.length := by rw [t.ld]; omega
    rw [walkS, show i + (m + 1) = i + 1 + m by omega]
    refine walk_comb t z m (i + 1) _ (by omega) ?_ ?_
    · rw [stepS_at i1 i2, comb, ← h1, colX_at i2, colZ_at i2, colX_at i1]
      show _ = _
      unfold part
      cases om D[i].X.toNat D[i].Z.toNat z.X.toNat z.Z.toNat <;> simp [mulP, BitVec.toNat_xor]
    · rw [stepS_at i1 i2, comb, ← h2, colX_at i2, colZ_at i2, colZ_at i1]
      unfold part
      cases om D[i].X.toNat D[i].Z.toNat z.X.toNat z.Z.toNat <;> simp [mulP, BitVec.toNat_xor]
theorem first_walk {N : Int} {S D : List Pl} {n : Nat} (t : Tab N S D n) {z : Pl} (hz : one N z = true) : firstPart S z n 0 = none ↔ (walkS S D z n 0 (unit N)).X = z.X ∧ (walkS S D z n 0 (unit N)).Z = z.Z := by
  obtain ⟨z1, z2, _⟩ := one_iff.1 hz
  obtain ⟨_, _, _, _, zx, zz⟩ := ok_iff.1 z2
  have hN := t.eN
  rw [z1, hN, Int.toNat_natCast] at zx zz
  have oS := fun i (h : i < S.length) => (one_iff.1 (t.oS i h))
  have oD := fun i (h : i < D.length) => (one_iff.1 (t.oD i h))
  have lS : ∀ i (h : i < S.length), S[i].X.toNat < 2 ^ n ∧ S[i].Z.toNat < 2 ^ n := fun i h => by
    obtain ⟨a, b, _⟩ := oS i h
    obtain ⟨_, _, _, _, x, y⟩ := ok_iff.1 b
    rw [a, hN, Int.toNat_natCast] at x y
    exact ⟨x, y⟩
  have lD : ∀ i (h : i < D.length), D[i].X.toNat < 2 ^ n ∧ D[i].Z.toNat < 2 ^ n := fun i h => by
    obtain ⟨a, b, _⟩ := oD i h
    obtain ⟨_, _, _, _, x, y⟩ := ok_iff.1 b
    rw [a, hN, Int.toNat_natCast] at x y
    exact ⟨x, y⟩
  have hs := t.ls
  have hd := t.ld
  constructor
  · intro h
    have hc := firstPart_none (by omega) h
    have key := span_stab (n := n) (sx := colX S) (sz := colZ S) (dx := colX D) (dz := colZ D) (x := z.X.toNat) (z := z.Z.toNat)
      (fun i hi => by rw [colX_at (by omega)]; exact (lS i (by omega)).1) (fun i hi => by rw [colZ_at (by omega)]; exact (lS i (by omega)).2)
      (fun i hi => by rw [colX_at (by omega)]; exact (lD i (by omega)).1) (fun i hi => by rw [colZ_at (by omega)]; exact (lD i (by omega)).2)
      (fun i j hi hj => by rw [colX_at (by omega), colZ_at (by omega), colX_at (by omega), colZ_at (by omega)]; exact t.ss i j (by omega) (by omega))
      (fun i j hi hj => by rw [colX_at (by omega), colZ_at (by omega), colX_at (by omega), colZ_at (by omega)]; exact t.dd i j (by omega) (by omega))
      (fun i j hi hj => by rw [colX_at (by omega), colZ_at (by omega), colX_at (by omega), colZ_at (by omega)]; exact t.ds i j (by omega) (by omega))
      zx zz (fun i hi => by rw [colX_at (by omega), colZ_at (by omega)]; exact hc i (by omega) (by omega) (by omega))
    obtain ⟨w1, w2⟩ := walk_comb t z n 0 (unit N) (by omega) rfl rfl
    rw [Nat.zero_add] at w1 w2
    exact ⟨BitVec.eq_of_toNat_eq (w1.trans key.1), BitVec.eq_of_toNat_eq (w2.trans key.2)⟩
  · intro ⟨h1, h2⟩
    cases e : firstPart S z n 0 with
    | none => rfl
    | some j =>
      obtain ⟨_, _, hj, hp⟩ := firstPart_some e
      have := part_walk t z S[j] (fun k hk => t.ss j k hj hk) n 0 (unit N) (by omega) (part_unit _ _)
      unfold part at this hp
      rw [h1, h2] at this
      rw [this] at hp
      cases hp
/-- What a string is to a tableau: 1 it holds, -1 its negative does, 0 neither. -/
def memb (N : Int) (S D : List Pl) (z : Pl) (n : Nat) : Int := match firstPart S z n 0 with
  | some _ => 0
  | none => if (walkS S D z n 0 (unit N)).Ph = z.Ph then 1 else -1
theorem P_Member (F : Nat) (hF : 66 ≤ F) {N : Int} {S D : List Pl} {n : Nat} (hc : chk N S D = true) (t : Tab N S D n) (z : Pl) : Ptableau_Member F N S D z.N z.X z.Z z.Ph = some (if one N z = true then (memb N S D z n, 0) else (0, 2)) := by
  unfold Ptableau_Member
  rw [P_Check F hF, if_pos hc]
  simp only [P_sure F (by omega : 65 ≤ F) t z, P_herm]
  rw [if_pos trivial]
  by_cases h1 : z.N = N
  · rw [if_pos h1]
    cases h2 : z.herm with
    | false =>
      have : ¬ one N z = true := by unfold one; rw [h2]; simp
      rw [if_neg this]; rfl
    | true =>
      have ho : one N z = true := by unfold one; rw [h2, decide_eq_true h1]; rfl
      have fw := first_walk t ho
      rw [if_pos ho, cond_true]
      unfold memb
      cases e : firstPart S z n 0 with
      | none =>
        obtain ⟨w1, w2⟩ := fw.1 e
        rw [if_pos w1, if_pos w2]
        simp only []
        split <;> rfl
      | some j =>
        simp only []
        by_cases g1 : (walkS S D z n 0 (unit N)).X = z.X
        · rw [if_pos g1, if_neg (fun g2 => by rw [fw.2 ⟨g1, g2⟩] at e; cases e)]
        · rw [if_neg g1]
  · have : ¬ one N z = true := by unfold one; rw [decide_eq_false h1]; simp
    rw [if_neg h1, if_neg this]
theorem R_Member (F : Nat) (hF : 66 ≤ F) {N : Int} {S D : List Pl} {n : Nat} (hc : chk N S D = true) (t : Tab N S D n) (z : Pl) : Pref14_Member F N S D z.N z.X z.Z z.Ph = some (if one N z = true then (memb N S D z n, 0) else (0, 2)) := by
  unfold Pref14_Member
  rw [R_Right F hF, hc]
  simp only [R_right F (by omega : 65 ≤ F) z, R_loose F hF t z, R_sign F hF t z, cond_true]
  have ho := one_R N z
  cases h2 : z.ok with
  | false =>
    rw [h2] at ho
    rw [ho]; rfl
  | true =>
    rw [h2] at ho
    rw [cond_true]
    by_cases h1 : z.N = N
    · rw [if_pos h1]
      by_cases h3 : z.Ph.tmod 2 = 1
      · rw [if_pos h3]
        rw [ho, decide_eq_true h1, decide_eq_true h3]; rfl
      · rw [if_neg h3]
        rw [ho, decide_eq_true h1, decide_eq_false h3]
        unfold memb
        cases firstPart S z n 0 with
        | some j => simp only []; rw [if_pos (by omega)]; rfl
        | none => simp only []; rw [if_neg (by omega)]; rfl
    · rw [if_neg h1, ho, decide_eq_false h1]; rfl
end Go.Proofs.YtogkkamlmklpkaaDoor.Ab
