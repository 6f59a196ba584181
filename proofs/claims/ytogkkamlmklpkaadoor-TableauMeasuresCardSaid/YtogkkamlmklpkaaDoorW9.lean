/- Plain law: Force, the program's and the reference's. No condition: lemmas only. -/
import Derived.Test.YtogkkamlmklpkaaDoorW8
set_option maxRecDepth 100000
set_option linter.unusedVariables false
set_option linter.unusedSimpArgs false
namespace Go.Proofs.YtogkkamlmklpkaaDoor.Ab
open Go
theorem RF3 (F : Nat) (hF : 66 ≤ F) {N : Int} {S D : List Pl} {n : Nat} (t : Tab N S D n) (z : Pl) (p : Nat) (hp : p < S.length) (w : Int) : ∀ (f m i : Nat) (l k : List Pl), i + m = n → m < f → l.length = n → k.length = n → (∀ j, i ≤ j → l[j]? = S[j]?) → (∀ j, i ≤ j → k[j]? = D[j]?) →
    Pref14_ForceL3 F p N S D z.N z.X z.Z z.Ph 0 w f (i : Int) l k = some (turnFrom S[p] z p m i l, turnFrom S[p] z p m i k)
  | 0, m, i, l, k, _, h, _, _, _, _ => by omega
  | f + 1, m, i, l, k, e, h, hl, hk, gl, gk => by
    have hle := t.le
    have hN := t.eN
    have hS := t.ls
    have hD := t.ld
    unfold Pref14_ForceL3
    cases m with
    | zero => rw [if_neg (by omega)]; rfl
    | succ m =>
      have i1 : i < S.length := by omega
      have i2 : i < D.length := by omega
      have i3 : i < l.length := by omega
      have i4 : i < k.length := by omega
      have e3 : l[i] = S[i] := by
        have := gl i (Nat.le_refl _)
        rw [List.getElem?_eq_getElem i3, List.getElem?_eq_getElem i1] at this
        exact Option.some.inj this
      have e4 : k[i] = D[i] := by
        have := gk i (Nat.le_refl _)
        rw [List.getElem?_eq_getElem i4, List.getElem?_eq_getElem i2] at this
        exact Option.some.inj this
      obtain ⟨a1, a2, _⟩ := one_iff.1 (t.oS i i1)
      obtain ⟨b1, b2, _⟩ := one_iff.1 (t.oD i i2)
      obtain ⟨c1, c2, _⟩ := one_iff.1 (t.oS p hp)
      have ih := RF3 F hF t z p hp w f m (i + 1) (turnAt S[p] z p i l) (turnAt S[p] z p i k) (by omega) (by omega) (by rw [turnAt_len]; exact hl) (by rw [turnAt_len]; exact hk)
        (fun j hj => by rw [turnAt_get (by omega)]; exact gl j (by omega)) (fun j hj => by rw [turnAt_get (by omega)]; exact gk j (by omega))
      rw [show ((i + 1 : Nat) : Int) = (i : Int) + 1 by omega] at ih
      have w1 : IntKind.i64.wrap ((i : Int) + 1) = (i : Int) + 1 := wrap_id ⟨by omega, by omega⟩
      rw [if_pos (by omega), turnFrom, turnFrom]
      by_cases hip : i = p
      · rw [if_pos (by omega : (i : Int) = (p : Int)), w1]
        subst hip
        rw [turnAt_p, turnAt_p] at ih ⊢
        exact ih
      · rw [if_neg (by omega : ¬ (i : Int) = (p : Int)), idx_lt i1]
        simp only [R_commute F (by omega : 65 ≤ F), idx_lt i2, idx_lt hp, idx_lt i3, idx_lt i4, w1, R_times F hF S[i] S[p] a2 c2 (a1.trans c1.symm), R_times F hF D[i] S[p] b2 c2 (b1.trans c1.symm)]
        rw [turnAt_i hip i3, turnAt_i hip i4, e3, e4] at ih ⊢
        cases hc : part S[i] z with
        | false =>
          cases hd : part D[i] z with
          | false => rw [hc, hd] at ih; exact ih
          | true => rw [hc, hd] at ih; exact ih
        | true =>
          cases hd : part D[i] z with
          | false => rw [hc, hd] at ih; exact ih
          | true => rw [hc, hd] at ih; exact ih
/-- A string forced: the tableau after, what it answered, the error. -/
def force (N : Int) (S D : List Pl) (z : Pl) (n : Nat) : Int × List Pl × List Pl × Int × Int :=
  if one N z = true then
    match firstPart S z n 0 with
    | some p => (N, putS S z n p, putD S D z n p, 1, 0)
    | none => if (walkS S D z n 0 (unit N)).Ph = z.Ph then (N, S, D, 0, 0) else (0, [], [], 0, 142)
  else (0, [], [], 0, 2)
theorem P_Force (F : Nat) (hF : 66 ≤ F) {N : Int} {S D : List Pl} {n : Nat} (hc : chk N S D = true) (t : Tab N S D n) (z : Pl) : Ptableau_Force F N S D z.N z.X z.Z z.Ph = some (force N S D z n) := by
  have hle := t.le
  have hS := t.ls
  have hD := t.ld
  have pf := PF0 t z F n 0 (by omega) (by omega)
  rw [show ((0 : Nat) : Int) = 0 from rfl] at pf
  unfold Ptableau_Force force
  rw [P_Member F hF hc t z, P_copied (by omega) (by omega), show ((S.length : Nat) : Int) = n by rw [hS], pf]
  by_cases ho : one N z = true
  · rw [if_pos ho, if_pos ho]
    unfold memb
    cases e : firstPart S z n 0 with
    | some p =>
      obtain ⟨_, hp, _⟩ := firstPart_some e
      simp only []
      rw [P_replaced F hF t z p (by omega)]
      rfl
    | none =>
      simp only []
      by_cases q : (walkS S D z n 0 (unit N)).Ph = z.Ph
      · rw [if_pos q, if_pos q]; rfl
      · rw [if_neg q, if_neg q]; rfl
  · rw [if_neg ho, if_neg ho]; rfl
theorem putS_len {S : List Pl} {z : Pl} {n p : Nat} : (putS S z n p).length = S.length := by
  unfold putS; split
  · rw [List.length_set, turnFrom_len]
  · rfl
theorem putD_len {S D : List Pl} {z : Pl} {n p : Nat} : (putD S D z n p).length = D.length := by
  unfold putD; split
  · rw [List.length_set, turnFrom_len]
  · rfl
theorem R_Force (F : Nat) (hF : 66 ≤ F) {N : Int} {S D : List Pl} {n : Nat} (hc : chk N S D = true) (t : Tab N S D n) (z : Pl) : Pref14_Force F N S D z.N z.X z.Z z.Ph = some (force N S D z n) := by
  have hle := t.le
  have hS := t.ls
  have hD := t.ld
  unfold Pref14_Force force
  rw [R_Member F hF hc t z, R_Copy (by omega) (by omega), R_loose F hF t z]
  by_cases ho : one N z = true
  · rw [if_pos ho, if_pos ho]
    unfold memb
    cases e : firstPart S z n 0 with
    | some p =>
      obtain ⟨_, hp, hp2, _⟩ := firstPart_some e
      have n1 : ¬ S = [] := fun e => by rw [e] at hS; simp at hS; omega
      have n2 : ¬ D = [] := fun e => by rw [e] at hD; simp at hD; omega
      have rf := RF3 F hF t z p hp2 N F n 0 S D (by omega) (by omega) hS hD (fun _ _ => rfl) (fun _ _ => rfl)
      rw [show ((0 : Nat) : Int) = 0 from rfl] at rf
      simp only [rf]
      rw [if_pos trivial, if_neg (by omega), if_neg n1, if_neg n2, if_neg (by omega), idx_lt hp2, idx_lt (l := turnFrom S[p] z p n 0 D) (by rw [turnFrom_len]; omega), idx_lt (l := turnFrom S[p] z p n 0 S) (by rw [turnFrom_len]; omega)]
      simp only [Int.toNat_natCast]
      unfold putS putD
      rw [List.getElem?_eq_getElem hp2]
    | none =>
      simp only []
      by_cases q : (walkS S D z n 0 (unit N)).Ph = z.Ph
      · rw [if_pos q, if_pos q]
        by_cases a : S = [] <;> by_cases b : D = [] <;> simp [a, b]
      · rw [if_neg q, if_neg q]; rfl
  · rw [if_neg ho, if_neg ho]; rfl
theorem P_Force0 (F : Nat) (hF : 66 ≤ F) {N : Int} {S D : List Pl} (hc : chk N S D = false) (z : Pl) : Ptableau_Force F N S D z.N z.X z.Z z.Ph = some (0, [], [], 0, 140) := by
  unfold Ptableau_Force Ptableau_Member
  rw [P_Check F hF, hc]
  rfl
theorem R_Force0 (F : Nat) (hF : 66 ≤ F) {N : Int} {S D : List Pl} (hc : chk N S D = false) (z : Pl) : Pref14_Force F N S D z.N z.X z.Z z.Ph = some (0, [], [], 0, 140) := by
  unfold Pref14_Force Pref14_Member
  rw [R_Right F hF, hc]
  rfl
end Go.Proofs.YtogkkamlmklpkaaDoor.Ab
