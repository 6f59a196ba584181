/- Plain law: Overlap; the law of Force comes to true. No condition: lemmas only. -/
import Derived.Test.YtogkkamlmklpkaaDoorW10
set_option maxRecDepth 100000
set_option linter.unusedVariables false
set_option linter.unusedSimpArgs false
namespace Go.Proofs.YtogkkamlmklpkaaDoor.Ab
open Go
theorem same_rows (l : List Pl) (hl : l.length < 4611686018427387904) : ∀ (f m i : Nat), i + m = l.length → m < f → Pref14_SameRowsL0 l l f (i : Int) = some (.inr ())
  | 0, m, i, _, h => by omega
  | f + 1, m, i, e, h => by
    unfold Pref14_SameRowsL0
    cases m with
    | zero => rw [if_neg (by omega)]
    | succ m =>
      have ih := same_rows l hl f m (i + 1) (by omega) (by omega)
      rw [show ((i + 1 : Nat) : Int) = (i : Int) + 1 by omega] at ih
      rw [if_pos (by omega), idx_lt (by omega : i < l.length)]
      simp only [decide_true, Bool.and_self, cond_true, wrap_id (n := (i : Int) + 1) ⟨by omega, by omega⟩]
      exact ih
theorem R_SameRows (F : Nat) (l : List Pl) (hl : l.length < 4611686018427387904) (hF : l.length < F) : Pref14_SameRows F l l = some true := by
  have := same_rows l hl F l.length 0 (by omega) hF
  rw [show ((0 : Nat) : Int) = 0 from rfl] at this
  unfold Pref14_SameRows
  rw [if_pos rfl, this]
theorem R_Alike (F : Nat) (N : Int) (S D : List Pl) (h1 : S.length < 4611686018427387904) (h2 : D.length < 4611686018427387904) (k1 : S.length < F) (k2 : D.length < F) : Pref14_Alike F N S D N S D = some true := by
  unfold Pref14_Alike
  rw [if_pos rfl, R_SameRows F S h1 k1, R_SameRows F D h2 k2]
  rfl
/-- The two loops of Overlap. -/
theorem over (F : Nat) (hF : 66 ≤ F) {N : Int} {S' D' : List Pl} {n : Nat} (t' : Tab N S' D' n) : ∀ (f m i : Nat) (acc : Int) (S D : List Pl), i + m = n → m < f → Tab N S D n →
    ∃ r, Ptableau_OverlapL0 F S' n f acc (i : Int) N S D = some r ∧ Pref14_OverlapL0 F N S' D' f acc (i : Int) N S D = some r
  | 0, m, i, acc, S, D, _, h, _ => by omega
  | f + 1, m, i, acc, S, D, e, h, t => by
    have hN := t.eN
    have hle := t.le
    have hS := t'.ls
    unfold Ptableau_OverlapL0 Pref14_OverlapL0
    cases m with
    | zero => exact ⟨.inr acc, by rw [if_neg (by omega)], by rw [if_neg (by omega)]⟩
    | succ m =>
      have i1 : i < S'.length := by omega
      have ho := t'.oS i i1
      rw [if_pos (by omega), if_pos (by omega), idx_lt i1]
      simp only [P_Force F hF (tab_chk t) t, R_Force F hF (tab_chk t) t, wrap_id (n := (i : Int) + 1) ⟨by omega, by omega⟩]
      unfold force
      rw [if_pos ho]
      have hc : ((i + 1 : Nat) : Int) = (i : Int) + 1 := by omega
      cases ef : firstPart S S'[i] n 0 with
      | some p =>
        obtain ⟨_, hp, hp2, hp3⟩ := firstPart_some ef
        obtain ⟨r, e1, e2⟩ := over F hF t' f m (i + 1) (IntKind.i64.wrap (acc + 1)) (putS S S'[i] n p) (putD S D S'[i] n p) (by omega) (by omega) (tab_put t ho (by omega) hp3)
        rw [hc] at e1 e2
        exact ⟨r, by simp only []; rw [if_pos trivial]; exact e1, by simp only []; rw [if_neg (by omega)]; exact e2⟩
      | none =>
        simp only []
        by_cases q : (walkS S D S'[i] n 0 (unit N)).Ph = S'[i].Ph
        · obtain ⟨r, e1, e2⟩ := over F hF t' f m (i + 1) (IntKind.i64.wrap (acc + 0)) S D (by omega) (by omega) t
          rw [hc] at e1 e2
          rw [if_pos q]
          exact ⟨r, by simp only []; rw [if_pos trivial]; exact e1, by simp only []; rw [if_neg (by omega)]; exact e2⟩
        · rw [if_neg q]
          exact ⟨.inl (-1), by simp only []; rw [if_neg (by omega)], by simp only []; rw [if_pos trivial]⟩
theorem overlap (F : Nat) (hF : 66 ≤ F) (N M : Int) (S D S' D' : List Pl) : ∃ a b, Ptableau_Overlap F N S D M S' D' = some (a, b) ∧ Pref14_Overlap F N S D M S' D' = some (a, b) := by
  unfold Ptableau_Overlap Pref14_Overlap
  rw [P_Check F hF, P_Check F hF, R_Right F hF, R_Right F hF]
  cases h1 : chk N S D with
  | false => exact ⟨0, 140, rfl, rfl⟩
  | true =>
    cases h2 : chk M S' D' with
    | false => exact ⟨0, 140, rfl, rfl⟩
    | true =>
      simp only [if_true, cond_true]
      by_cases hN : N = M
      · subst hN
        rw [if_pos rfl, if_pos rfl]
        obtain ⟨n, t⟩ := chk_tab h1
        obtain ⟨n', t'⟩ := chk_tab h2
        obtain rfl : n = n' := by have := t.eN; have := t'.eN; omega
        have hle := t.le
        obtain ⟨r, e1, e2⟩ := over F hF t' F n 0 0 S D (by omega) (by omega) t
        rw [show ((0 : Nat) : Int) = 0 from rfl] at e1 e2
        rw [show ((S'.length : Nat) : Int) = (n : Int) by rw [t'.ls], e1, e2]
        cases r with
        | inl a => exact ⟨a, 0, rfl, rfl⟩
        | inr a => exact ⟨a, 0, rfl, rfl⟩
      · rw [if_neg hN, if_neg hN]
        exact ⟨0, 2, rfl, rfl⟩
/-- The law of Force. -/
theorem law_forces (F : Nat) (N M : Int) (S D S' D' : List Pl) (z : Pl) (hF : 66 ≤ F) (l1 : S.length * 32 ≤ 140737488355328) (l2 : D.length * 32 ≤ 140737488355328) (l3 : S'.length * 32 ≤ 140737488355328) (l4 : D'.length * 32 ≤ 140737488355328)
    (f1 : S.length < F) (f2 : D.length < F) (f3 : S'.length < F) (f4 : D'.length < F) : Plaw14_TableauForces F N S D z.N z.X z.Z z.Ph M S' D' = some true := by
  unfold Plaw14_TableauForces
  rw [R_Copy l1 l2, R_Copy l3 l4]
  obtain ⟨a, b, o1, o2⟩ := overlap F hF N M S D S' D'
  have a1 := R_Alike F N S D (by omega) (by omega) f1 f2
  have a2 := R_Alike F M S' D' (by omega) (by omega) f3 f4
  have key : ∃ (r1 : Int) (r2 r3 : List Pl) (r4 r5 : Int), Ptableau_Force F N S D z.N z.X z.Z z.Ph = some (r1, r2, r3, r4, r5) ∧ Pref14_Force F N S D z.N z.X z.Z z.Ph = some (r1, r2, r3, r4, r5) ∧ Pref14_Alike F r1 r2 r3 r1 r2 r3 = some true := by
    cases h1 : chk N S D with
    | false => exact ⟨_, _, _, _, _, P_Force0 F hF h1 z, R_Force0 F hF h1 z, R_Alike F _ _ _ (by simp) (by simp) (by simp; omega) (by simp; omega)⟩
    | true =>
      obtain ⟨n, t⟩ := chk_tab h1
      have hle := t.le
      have hS := t.ls
      have hD := t.ld
      have e1 := P_Force F hF h1 t z
      have e2 := R_Force F hF h1 t z
      unfold force at e1 e2
      by_cases ho : one N z = true
      · rw [if_pos ho] at e1 e2
        cases ef : firstPart S z n 0 with
        | some p =>
          rw [ef] at e1 e2
          exact ⟨_, _, _, _, _, e1, e2, R_Alike F _ _ _ (by rw [putS_len]; omega) (by rw [putD_len]; omega) (by rw [putS_len]; omega) (by rw [putD_len]; omega)⟩
        | none =>
          rw [ef] at e1 e2
          simp only [] at e1 e2
          by_cases q : (walkS S D z n 0 (unit N)).Ph = z.Ph
          · rw [if_pos q] at e1 e2
            exact ⟨_, _, _, _, _, e1, e2, a1⟩
          · rw [if_neg q] at e1 e2
            exact ⟨_, _, _, _, _, e1, e2, R_Alike F _ _ _ (by simp) (by simp) (by simp; omega) (by simp; omega)⟩
      · rw [if_neg ho] at e1 e2
        exact ⟨_, _, _, _, _, e1, e2, R_Alike F _ _ _ (by simp) (by simp) (by simp; omega) (by simp; omega)⟩
  obtain ⟨r1, r2, r3, r4, r5, e1, e2, e3⟩ := key
  simp only [e1, e2, o1, o2, e3, a1, a2, Plaw14_num, cond_true, if_true]
end Go.Proofs.YtogkkamlmklpkaaDoor.Ab
