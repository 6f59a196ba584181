/- Plain law: a string put into a tableau (replaced, Force). No condition: lemmas only. -/
import Derived.Test.YtogkkamlmklpkaaDoorW7
set_option maxRecDepth 100000
set_option linter.unusedVariables false
set_option linter.unusedSimpArgs false
namespace Go.Proofs.YtogkkamlmklpkaaDoor.Ab
open Go
/-- Of a list of strings those from i on turned by s where they part with z, all but the p-th. -/
def turnAt (s z : Pl) (p i : Nat) (l : List Pl) : List Pl := if i = p then l else match l[i]? with
  | some v => bif part v z then l.set i (mulP v s) else l
  | none => l
def turnFrom (s z : Pl) (p : Nat) : Nat → Nat → List Pl → List Pl
  | 0, _, l => l
  | m + 1, i, l => turnFrom s z p m (i + 1) (turnAt s z p i l)
theorem turnAt_len {s z : Pl} {p i : Nat} {l : List Pl} : (turnAt s z p i l).length = l.length := by
  unfold turnAt
  split
  · rfl
  · split
    · rename_i v _; cases part v z <;> simp
    · rfl
theorem turnAt_p {s z : Pl} {p : Nat} {l : List Pl} : turnAt s z p p l = l := by unfold turnAt; rw [if_pos rfl]
theorem turnAt_i {s z : Pl} {p i : Nat} {l : List Pl} (h : i ≠ p) (hi : i < l.length) : turnAt s z p i l = bif part l[i] z then l.set i (mulP l[i] s) else l := by
  unfold turnAt; rw [if_neg h, List.getElem?_eq_getElem hi]
theorem turnAt_get {s z : Pl} {p i k : Nat} {l : List Pl} (h : k ≠ i) : (turnAt s z p i l)[k]? = l[k]? := by
  unfold turnAt
  split
  · rfl
  · split
    · rename_i v _
      cases part v z
      · rfl
      · rw [cond_true, List.getElem?_set_ne (Ne.symm h)]
    · rfl
theorem turnFrom_len {s z : Pl} {p : Nat} : ∀ {m i : Nat} {l : List Pl}, (turnFrom s z p m i l).length = l.length
  | 0, _, _ => rfl
  | m + 1, i, l => by rw [turnFrom, turnFrom_len, turnAt_len]
/-- Rows in order. -/
def Rowy (N : Int) (l : List Pl) : Prop := ∀ (k : Nat) (v : Pl), l[k]? = some v → v.ok = true ∧ v.N = N
theorem Rowy.turn {N : Int} {s z : Pl} {p i : Nat} {l : List Pl} (h : Rowy N l) (hs : s.ok = true) (hn : s.N = N) : Rowy N (turnAt s z p i l) := by
  intro k v hv
  by_cases e : k = i
  · subst e
    by_cases e2 : k = p
    · subst e2; rw [turnAt_p] at hv; exact h k v hv
    · have hk : k < l.length := by
        have := (List.getElem?_eq_some_iff.1 hv).1
        rwa [turnAt_len] at this
      obtain ⟨q1, q2⟩ := h k l[k] (List.getElem?_eq_getElem hk)
      rw [turnAt_i e2 hk] at hv
      cases hp : part l[k] z with
      | false => rw [hp] at hv; exact h k v hv
      | true =>
        rw [hp, cond_true, List.getElem?_set_self hk] at hv
        cases hv
        obtain ⟨r1, r2⟩ := mulP_ok q1 hs (q2.trans hn.symm)
        exact ⟨r1, r2.trans q2⟩
  · rw [turnAt_get e] at hv; exact h k v hv
theorem PR3 (F : Nat) (hF : 65 ≤ F) {N : Int} (z s : Pl) (p : Nat) (n : Nat) (hn : n ≤ 64) (hN : N = n) (S D X : List Pl) (hp : p < S.length) (hs : S[p] = s) (o1 : s.ok = true) (o2 : s.N = N) : ∀ (f m i : Nat) (l : List Pl), i + m = n → m < f → l.length = n → Rowy N l →
    Ptableau_replacedL3 F n X z.N z.X z.Z z.Ph p N S D f (i : Int) l = some (turnFrom s z p m i l)
  | 0, m, i, l, _, h, _, _ => by omega
  | f + 1, m, i, l, e, h, hl, hr => by
    unfold Ptableau_replacedL3
    cases m with
    | zero => rw [if_neg (by omega)]; rfl
    | succ m =>
      have i1 : i < l.length := by omega
      obtain ⟨q1, q2⟩ := hr i l[i] (List.getElem?_eq_getElem i1)
      have ih := PR3 F hF z s p n hn hN S D X hp hs o1 o2 f m (i + 1) (turnAt s z p i l) (by omega) (by omega) (by rw [turnAt_len]; exact hl) (hr.turn o1 o2)
      rw [show ((i + 1 : Nat) : Int) = (i : Int) + 1 by omega] at ih
      rw [if_pos (by omega), idx_lt i1, idx_lt hp, hs, turnFrom]
      simp only [P_commute, wrap_id (n := (i : Int) + 1) ⟨by omega, by omega⟩, P_mul F hF l[i] s q1 o1 (q2.trans o2.symm)]
      by_cases hip : i = p
      · rw [if_pos (by omega : (i : Int) = (p : Int))]
        subst hip
        rw [turnAt_p] at ih ⊢
        exact ih
      · rw [if_neg (by omega : ¬ (i : Int) = (p : Int))]
        rw [turnAt_i hip i1] at ih ⊢
        cases hc : part l[i] z with
        | false => rw [hc] at ih; exact ih
        | true => rw [hc] at ih; exact ih
theorem PR4 (F : Nat) (hF : 65 ≤ F) {N : Int} (z s : Pl) (p : Nat) (n : Nat) (hn : n ≤ 64) (hN : N = n) (S D X : List Pl) (hp : p < S.length) (hs : S[p] = s) (o1 : s.ok = true) (o2 : s.N = N) : ∀ (f m i : Nat) (l : List Pl), i + m = n → m < f → l.length = n → Rowy N l →
    Ptableau_replacedL4 F n X z.N z.X z.Z z.Ph p N S D f (i : Int) l = some (turnFrom s z p m i l)
  | 0, m, i, l, _, h, _, _ => by omega
  | f + 1, m, i, l, e, h, hl, hr => by
    unfold Ptableau_replacedL4
    cases m with
    | zero => rw [if_neg (by omega)]; rfl
    | succ m =>
      have i1 : i < l.length := by omega
      obtain ⟨q1, q2⟩ := hr i l[i] (List.getElem?_eq_getElem i1)
      have ih := PR4 F hF z s p n hn hN S D X hp hs o1 o2 f m (i + 1) (turnAt s z p i l) (by omega) (by omega) (by rw [turnAt_len]; exact hl) (hr.turn o1 o2)
      rw [show ((i + 1 : Nat) : Int) = (i : Int) + 1 by omega] at ih
      rw [if_pos (by omega), idx_lt i1, idx_lt hp, hs, turnFrom]
      simp only [P_commute, wrap_id (n := (i : Int) + 1) ⟨by omega, by omega⟩, P_mul F hF l[i] s q1 o1 (q2.trans o2.symm)]
      by_cases hip : i = p
      · rw [if_pos (by omega : (i : Int) = (p : Int))]
        subst hip
        rw [turnAt_p] at ih ⊢
        exact ih
      · rw [if_neg (by omega : ¬ (i : Int) = (p : Int))]
        rw [turnAt_i hip i1] at ih ⊢
        cases hc : part l[i] z with
        | false => rw [hc] at ih; exact ih
        | true => rw [hc] at ih; exact ih
def putS (S : List Pl) (z : Pl) (n p : Nat) : List Pl := match S[p]? with | some s => (turnFrom s z p n 0 S).set p z | none => S
def putD (S D : List Pl) (z : Pl) (n p : Nat) : List Pl := match S[p]? with | some s => (turnFrom s z p n 0 D).set p s | none => D
theorem Tab.rS {N : Int} {S D : List Pl} {n : Nat} (t : Tab N S D n) : Rowy N S := fun k v hv => by
  obtain ⟨h1, h2⟩ := List.getElem?_eq_some_iff.1 hv
  obtain ⟨a, b, _⟩ := one_iff.1 (t.oS k h1)
  rw [← h2]; exact ⟨b, a⟩
theorem Tab.rD {N : Int} {S D : List Pl} {n : Nat} (t : Tab N S D n) : Rowy N D := fun k v hv => by
  obtain ⟨h1, h2⟩ := List.getElem?_eq_some_iff.1 hv
  obtain ⟨a, b, _⟩ := one_iff.1 (t.oD k h1)
  rw [← h2]; exact ⟨b, a⟩
theorem P_copied {N : Int} {S D : List Pl} (h1 : S.length * 32 ≤ 140737488355328) (h2 : D.length * 32 ≤ 140737488355328) : Ptableau_copied N S D = some (N, S, D) := by
  unfold Ptableau_copied
  simp only [h1, h2, if_true]
  by_cases a : S = [] <;> by_cases b : D = [] <;> simp [a, b]
theorem R_Copy {N : Int} {S D : List Pl} (h1 : S.length * 32 ≤ 140737488355328) (h2 : D.length * 32 ≤ 140737488355328) : Pref14_Copy N S D = some (N, S, D) := by
  unfold Pref14_Copy
  simp only [h1, h2, if_true]
  by_cases a : S = [] <;> by_cases b : D = [] <;> simp [a, b]
theorem P_replaced (F : Nat) (hF : 66 ≤ F) {N : Int} {S D : List Pl} {n : Nat} (t : Tab N S D n) (z : Pl) (p : Nat) (hp : p < n) : Ptableau_replaced F N S D p z.N z.X z.Z z.Ph = some (N, putS S z n p, putD S D z n p) := by
  have hle := t.le
  have hs := t.ls
  have hd := t.ld
  have n1 : ¬ S = [] := fun e => by rw [e] at hs; simp at hs; omega
  have n2 : ¬ D = [] := fun e => by rw [e] at hd; simp at hd; omega
  have p1 : p < S.length := by omega
  obtain ⟨o2, o1, _⟩ := one_iff.1 (t.oS p p1)
  have a1 := PR3 F (by omega) z S[p] p n hle t.eN S D D p1 rfl o1 o2 F n 0 S (by omega) (by omega) hs t.rS
  have a2 := PR4 F (by omega) z S[p] p n hle t.eN S D (turnFrom S[p] z p n 0 S) p1 rfl o1 o2 F n 0 D (by omega) (by omega) hd t.rD
  rw [show ((0 : Nat) : Int) = 0 from rfl] at a1 a2
  unfold Ptableau_replaced putS putD
  rw [P_copied (by omega) (by omega)]
  simp only []
  rw [if_neg n1, if_neg n2, show ((S.length : Nat) : Int) = n by rw [hs], show ((D.length : Nat) : Int) = n by rw [hd], a1]
  simp only []
  rw [a2]
  simp only []
  rw [idx_lt p1, idx_lt (l := turnFrom S[p] z p n 0 D) (by rw [turnFrom_len]; omega), idx_lt (l := turnFrom S[p] z p n 0 S) (by rw [turnFrom_len]; omega), List.getElem?_eq_getElem p1]
  simp only [Int.toNat_natCast]
end Go.Proofs.YtogkkamlmklpkaaDoor.Ab
