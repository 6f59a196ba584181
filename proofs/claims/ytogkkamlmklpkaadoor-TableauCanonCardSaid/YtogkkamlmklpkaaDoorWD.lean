/- Plain law: the form of stabilizers has as many rows as there are; Canon, the program's and the reference's; Same. No condition: lemmas only. -/
import Derived.Test.YtogkkamlmklpkaaDoorWC
set_option maxRecDepth 100000
set_option linter.unusedVariables false
set_option linter.unusedSimpArgs false
namespace Go.Proofs.YtogkkamlmklpkaaDoor.Ab
open Go
/-- Rows that do not hang on one another: there are strings that part with just one each. -/
def Dual (l : List Pl) : Prop := ∃ d : Nat → Nat × Nat, ∀ i k (h : k < l.length), i < l.length → omv (d i) (vec l[k]) = decide (i = k)
theorem dual_mul {l : List Pl} (h : Dual l) {i r : Nat} (hi : i < l.length) (hr : r < l.length) (hne : i ≠ r) : Dual (l.set i (mulP l[i] l[r])) := by
  obtain ⟨d, hd⟩ := h
  refine ⟨fun j => if j = r then vx (d r) (d i) else d j, fun j k hk0 hj => ?_⟩
  have hk : k < l.length := by rw [List.length_set] at hk0; exact hk0
  rw [List.length_set] at hj
  have e : vec ((l.set i (mulP l[i] l[r]))[k]'hk0) = if k = i then vx (vec l[i]) (vec l[r]) else vec l[k] := by
    rw [List.getElem_set]
    by_cases q : i = k
    · rw [if_pos q, if_pos q.symm, vec_mul]
    · rw [if_neg q, if_neg (Ne.symm q)]
  rw [e]
  by_cases a : j = r
  · subst a
    simp only [if_true]
    by_cases b : k = i
    · subst b
      rw [if_pos rfl, omv_r, omv_l, omv_l, hd j k hi hj, hd k k hi hk, hd j j hr hj, hd k j hr hk]
      simp [hne, Ne.symm hne]
    · rw [if_neg b, omv_l, hd j k hk hj, hd i k hk hi, decide_eq_false (Ne.symm b), Bool.xor_false]
  · simp only [if_neg a]
    by_cases b : k = i
    · subst b
      rw [if_pos rfl, omv_r, hd j k hi hj, hd j r hr hj, decide_eq_false a, Bool.xor_false]
    · rw [if_neg b, hd j k hk hj]
theorem dual_swap {l : List Pl} (h : Dual l) {r j : Nat} (hr : r < l.length) (hj : j < l.length) : Dual (swap l r j) := by
  obtain ⟨d, hd⟩ := h
  refine ⟨fun i => if i = j then d r else if i = r then d j else d i, fun i k hk hi => ?_⟩
  rw [swap_len] at hk hi
  rw [swap_row hr hj hk]
  by_cases a : i = j
  · simp only [if_pos a]
    by_cases b : k = j
    · rw [if_pos b, hd r r hr hr, a, b]; simp
    · rw [if_neg b]
      by_cases c : k = r
      · rw [if_pos c, hd r j hj hr]; congr 1; apply propext; omega
      · rw [if_neg c, hd r k hk hr]; congr 1; apply propext; omega
  · simp only [if_neg a]
    by_cases a2 : i = r
    · simp only [if_pos a2]
      by_cases b : k = j
      · rw [if_pos b, hd j r hr hj]; congr 1; apply propext; omega
      · rw [if_neg b]
        by_cases c : k = r
        · rw [if_pos c, hd j j hj hj]; congr 1; apply propext; omega
        · rw [if_neg c, hd j k hk hj]; congr 1; apply propext; omega
    · simp only [if_neg a2]
      by_cases b : k = j
      · rw [if_pos b, hd i r hr hi]; congr 1; apply propext; omega
      · rw [if_neg b]
        by_cases c : k = r
        · rw [if_pos c, hd i j hj hi]; congr 1; apply propext; omega
        · rw [if_neg c, hd i k hk hi]
theorem dual_elimAt {l : List Pl} (h : Dual l) {n r c i : Nat} (hi : i < l.length) (hr : r < l.length) : Dual (elimAt n r c i l) := by
  by_cases e : i = r
  · subst e; rw [elimAt_r]; exact h
  · rw [elimAt_at e hi hr]
    cases colb l[i] n c with
    | false => exact h
    | true => exact dual_mul h hi hr e
theorem dual_elim {n r c : Nat} : ∀ {m i : Nat} {l : List Pl}, Dual l → i + m ≤ l.length → r < l.length → Dual (elim n r c m i l)
  | 0, _, _, h, _, _ => h
  | m + 1, i, l, h, h1, h2 => dual_elim (m := m) (dual_elimAt h (by omega) h2) (by rw [elimAt_len]; omega) (by rw [elimAt_len]; exact h2)
theorem dual_ech (n : Nat) : ∀ (m row c : Nat) (l : List Pl), Dual l → Dual (ech n m row c l).2
  | 0, _, _, _, h => h
  | m + 1, row, c, l, h => by
    rw [ech]
    cases ef : findRow l n c (l.length - row) row with
    | none => exact dual_ech n m row (c + 1) l h
    | some j =>
      obtain ⟨j1, j2, j3, _⟩ := findRow_some ef
      exact dual_ech n m (row + 1) (c + 1) _ (dual_elim (dual_swap h (by omega) j3) (by rw [swap_len]; omega) (by rw [swap_len]; omega))
theorem Tab.dual {N : Int} {S D : List Pl} {n : Nat} (t : Tab N S D n) : Dual S := by
  have hS := t.ls
  have hD := t.ld
  refine ⟨vecs D, fun i k hk hi => ?_⟩
  rw [vecs_at (by omega), ← part_vec]
  exact t.ds i k (by omega) hk
/-- All rows lead. -/
theorem form_full {N : Int} {n : Nat} (hN : N = n) {l : List Pl} (hr : Rowy N l) (h : Dual l) : (form n l).1 = l.length := by
  obtain ⟨piv, e⟩ := form_ech n l
  have hle := e.le
  have hl := (ech_row n (2 * n) 0 0 l (by omega)).2
  have hr' := ech_rowy (N := N) n (2 * n) 0 0 l hr
  have hd := dual_ech n (2 * n) 0 0 l h
  unfold form at hle e ⊢
  rw [hl] at hle
  by_cases q : (ech n (2 * n) 0 0 l).1 = l.length
  · exact q
  · have k1 : (ech n (2 * n) 0 0 l).1 < (ech n (2 * n) 0 0 l).2.length := by omega
    obtain ⟨d, hd⟩ := hd
    have hb := hd _ _ k1 k1
    obtain ⟨z1, z2⟩ := colb_zero (hr'.at k1).1 ((hr'.at k1).2.trans hN) (fun c hc => e.low _ k1 (Nat.le_refl _) c hc)
    unfold vec at hb
    rw [z1, z2] at hb
    rw [decide_eq_true rfl] at hb
    unfold omv at hb
    rw [show (0#64).toNat = 0 from rfl, om_zero] at hb
    cases hb
def canA (N : Int) (S D : List Pl) : List Pl × Int := if chk N S D = true then ((form S.length S).2, 0) else ([], 140)
theorem P_Canon (F : Nat) (hF : 200 ≤ F) (N : Int) (S D : List Pl) : Ptableau_Canon F N S D = some (canA N S D) := by
  unfold Ptableau_Canon canA
  rw [P_Check F (by omega)]
  cases hc : chk N S D with
  | false => rfl
  | true =>
    obtain ⟨n, t⟩ := chk_tab hc
    have hle := t.le
    have hs := t.ls
    simp only [if_true]
    rw [P_echelon F hF t.eN hle (by omega) t.rS, hs]
    simp only []
    by_cases e : (form n S).2 = []
    · rw [if_pos e, e]
    · rw [if_neg e]
theorem R_Canon (F : Nat) (hF : 200 ≤ F) (N : Int) (S D : List Pl) : Pref14_Canon F N S D = some (canA N S D) := by
  unfold Pref14_Canon canA
  rw [R_Right F (by omega)]
  cases hc : chk N S D with
  | false => rfl
  | true =>
    obtain ⟨n, t⟩ := chk_tab hc
    have hle := t.le
    have hs := t.ls
    simp only [if_true, cond_true]
    rw [R_reduced F hF t.eN hle (by omega) t.rS, hs, form_full t.eN t.rS t.dual]
    have := (ech_row n (2 * n) 0 0 S (by omega)).2
    simp only []
    rw [List.take_of_length_le (by unfold form; omega)]
theorem canA_len (N : Int) (S D : List Pl) : (canA N S D).1.length ≤ 64 := by
  unfold canA
  cases hc : chk N S D with
  | false => simp
  | true =>
    obtain ⟨n, t⟩ := chk_tab hc
    have hle := t.le
    have hs := t.ls
    have := (ech_row n (2 * n) 0 0 S (by omega)).2
    simp only [if_true, hs]
    unfold form
    omega
/-! ### Same -/
theorem eq_rows (a b : List Pl) (h : a.length = b.length) (hl : a.length < 4611686018427387904) : ∀ (f m i : Nat), i + m = a.length → m < f →
    Pslices_Equal_PauliL0 a b (a.length : Int) f (i : Int) = some (bif decide (a.drop i = b.drop i) then .inr () else .inl ())
  | 0, m, i, _, h => by omega
  | f + 1, m, i, e, hf => by
    unfold Pslices_Equal_PauliL0
    cases m with
    | zero => rw [if_neg (by omega), List.drop_of_length_le (by omega), List.drop_of_length_le (by omega)]; rfl
    | succ m =>
      have i1 : i < a.length := by omega
      have i2 : i < b.length := by omega
      have ih := eq_rows a b h hl f m (i + 1) (by omega) (by omega)
      rw [show ((i + 1 : Nat) : Int) = (i : Int) + 1 by omega] at ih
      rw [if_pos (by omega), idx_lt i1, idx_lt i2, List.drop_eq_getElem_cons i1, List.drop_eq_getElem_cons i2]
      simp only [wrap_id (n := (i : Int) + 1) ⟨by omega, by omega⟩, List.cons.injEq]
      by_cases q : a[i] = b[i]
      · simp only [q, decide_true, Bool.and_self, Bool.not_true, cond_false, cond_true, true_and]
        exact ih
      · have : (decide (a[i].N = b[i].N) && (decide (a[i].X = b[i].X) && (decide (a[i].Z = b[i].Z) && decide (a[i].Ph = b[i].Ph)))) = false := by
          rw [Bool.eq_false_iff]
          intro hh
          simp only [Bool.and_eq_true, decide_eq_true_eq] at hh
          apply q
          cases e1 : a[i]; cases e2 : b[i]
          rw [e1, e2] at hh
          simp only at hh
          obtain ⟨x1, x2, x3, x4⟩ := hh
          rw [x1, x2, x3, x4]
        simp only [this, q, Bool.not_false, cond_true, cond_false, false_and, decide_false]
theorem same_rowsE (a b : List Pl) (h : a.length = b.length) (hl : a.length < 4611686018427387904) : ∀ (f m i : Nat), i + m = a.length → m < f →
    Pref14_SameRowsL0 a b f (i : Int) = some (bif decide (a.drop i = b.drop i) then .inr () else .inl ())
  | 0, m, i, _, h => by omega
  | f + 1, m, i, e, hf => by
    unfold Pref14_SameRowsL0
    cases m with
    | zero => rw [if_neg (by omega), List.drop_of_length_le (by omega), List.drop_of_length_le (by omega)]; rfl
    | succ m =>
      have i1 : i < a.length := by omega
      have i2 : i < b.length := by omega
      have ih := same_rowsE a b h hl f m (i + 1) (by omega) (by omega)
      rw [show ((i + 1 : Nat) : Int) = (i : Int) + 1 by omega] at ih
      rw [if_pos (by omega), idx_lt i1, idx_lt i2, List.drop_eq_getElem_cons i1, List.drop_eq_getElem_cons i2]
      simp only [wrap_id (n := (i : Int) + 1) ⟨by omega, by omega⟩, List.cons.injEq]
      by_cases q : a[i] = b[i]
      · simp only [q, decide_true, Bool.and_self, cond_true, true_and]
        exact ih
      · have : (decide (a[i].N = b[i].N) && (decide (a[i].X = b[i].X) && (decide (a[i].Z = b[i].Z) && decide (a[i].Ph = b[i].Ph)))) = false := by
          rw [Bool.eq_false_iff]
          intro hh
          simp only [Bool.and_eq_true, decide_eq_true_eq] at hh
          apply q
          cases e1 : a[i]; cases e2 : b[i]
          rw [e1, e2] at hh
          simp only at hh
          obtain ⟨x1, x2, x3, x4⟩ := hh
          rw [x1, x2, x3, x4]
        simp only [this, q, cond_false, false_and, decide_false]
theorem R_SameRowsE (F : Nat) (a b : List Pl) (hl : a.length < 4611686018427387904) (hb : b.length < 4611686018427387904) (hF : a.length < F) : Pref14_SameRows F a b = some (decide (a = b)) := by
  unfold Pref14_SameRows
  by_cases h : a.length = b.length
  · have := same_rowsE a b h hl F a.length 0 (by omega) hF
    rw [show ((0 : Nat) : Int) = 0 from rfl, List.drop_zero, List.drop_zero] at this
    rw [if_pos (by omega), this]
    cases decide (a = b) <;> rfl
  · rw [if_neg (by omega), decide_eq_false (fun e => h (by rw [e]))]
theorem P_EqualE (F : Nat) (a b : List Pl) (hl : a.length < 4611686018427387904) (hb : b.length < 4611686018427387904) (hF : a.length < F) : Pslices_Equal_Pauli F a b = some (decide (a = b)) := by
  unfold Pslices_Equal_Pauli
  by_cases h : a.length = b.length
  · have := eq_rows a b h hl F a.length 0 (by omega) hF
    rw [show ((0 : Nat) : Int) = 0 from rfl, List.drop_zero, List.drop_zero] at this
    rw [if_pos (by omega), this]
    cases decide (a = b) <;> rfl
  · rw [if_neg (by omega), decide_eq_false (fun e => h (by rw [e]))]
def sameA (N : Int) (S D : List Pl) (M : Int) (S' D' : List Pl) : Bool := chk N S D && (chk M S' D' && (decide (N = M) && decide ((form S.length S).2 = (form S'.length S').2)))
theorem P_Same (F : Nat) (hF : 200 ≤ F) (N : Int) (S D : List Pl) (M : Int) (S' D' : List Pl) : Ptableau_Same F N S D M S' D' = some (sameA N S D M S' D') := by
  unfold Ptableau_Same sameA
  have l1 := canA_len N S D
  have l2 := canA_len M S' D'
  rw [P_Canon F hF, P_Canon F hF]
  unfold canA at l1 l2 ⊢
  cases h1 : chk N S D with
  | false => cases h2 : chk M S' D' <;> simp
  | true =>
    cases h2 : chk M S' D' with
    | false => simp
    | true =>
      rw [h1, if_pos rfl] at l1
      rw [h2, if_pos rfl] at l2
      simp only [] at l1 l2
      simp only [if_true, Bool.true_and]
      by_cases hN : N = M
      · rw [if_pos hN, P_EqualE F _ _ (by omega) (by omega) (by omega), decide_eq_true hN, Bool.true_and]
      · rw [if_neg hN, decide_eq_false hN, Bool.false_and]
theorem R_Same (F : Nat) (hF : 200 ≤ F) (N : Int) (S D : List Pl) (M : Int) (S' D' : List Pl) : Pref14_Same F N S D M S' D' = some (sameA N S D M S' D') := by
  unfold Pref14_Same sameA
  have l1 := canA_len N S D
  have l2 := canA_len M S' D'
  rw [R_Canon F hF, R_Canon F hF]
  unfold canA at l1 l2 ⊢
  cases h1 : chk N S D with
  | false => cases h2 : chk M S' D' <;> simp
  | true =>
    cases h2 : chk M S' D' with
    | false => simp
    | true =>
      rw [h1, if_pos rfl] at l1
      rw [h2, if_pos rfl] at l2
      simp only [] at l1 l2
      simp only [if_true, Bool.true_and]
      by_cases hN : N = M
      · rw [if_pos hN, R_SameRowsE F _ _ (by omega) (by omega) (by omega), decide_eq_true hN, Bool.true_and]
      · rw [if_neg hN, decide_eq_false hN, Bool.false_and]
end Go.Proofs.YtogkkamlmklpkaaDoor.Ab
/- Plain law: the one form hangs on the group alone. No condition: lemmas only. -/
set_option maxRecDepth 100000
set_option linter.unusedVariables false
set_option linter.unusedSimpArgs false
namespace Go.Proofs.YtogkkamlmklpkaaDoor.Ab
open Go
/-- Even strings that commute. -/
def Comm (N : Int) (l : List Pl) : Prop := (∀ i (h : i < l.length), one N l[i] = true) ∧ ∀ i j (h : i < l.length) (k : j < l.length), part l[i] l[j] = false
theorem Tab.comm {N : Int} {S D : List Pl} {n : Nat} (t : Tab N S D n) : Comm N S := ⟨t.oS, t.ss⟩
/-- A product of some of them. -/
def InG (N : Int) (l : List Pl) (x : Pl) : Prop := ∃ c, x = cprod (sAt l) c l.length (unit N)
theorem u_ph (N : Int) : 0 ≤ (unit N).Ph ∧ (unit N).Ph ≤ 3 := by unfold unit; simp
theorem part_g {N : Int} {l : List Pl} (s : Nat → Pl) {c : Nat → Bool} {m : Pl} : ∀ k, (∀ j, j < k → part m (s j) = false) → part m (cprod s c k (unit N)) = false
  | 0, _ => part_unit _ _
  | k + 1, h => by
    rw [cprod_succ, tw]
    cases c k with
    | false => exact part_g (l := l) s k (fun j hj => h j (by omega))
    | true => rw [cond_true, part_mul, part_g (l := l) s k (fun j hj => h j (by omega)), h k (by omega)]; rfl
theorem cprod_N {s : Nat → Pl} {c : Nat → Bool} {N : Int} : ∀ k, (cprod s c k (unit N)).N = N
  | 0 => rfl
  | k + 1 => by
    rw [cprod_succ, tw]
    cases c k with
    | false => exact cprod_N k
    | true => exact cprod_N k
theorem cprod_mul {N : Int} {s : Nat → Pl} {c c' : Nat → Bool} : ∀ k, (∀ j, j < k → (s j).N = N ∧ (s j).Ph % 2 = 0) → (∀ i j, i < k → j < k → part (s i) (s j) = false) →
    mulP (cprod s c k (unit N)) (cprod s c' k (unit N)) = cprod s (fun j => c j ^^ c' j) k (unit N)
  | 0, _, _ => by show mulP (unit N) (unit N) = unit N; exact mulP_unit_r (u_ph N).1 (u_ph N).2
  | k + 1, h1, h2 => by
    have ih := cprod_mul (c := c) (c' := c') k (fun j hj => h1 j (by omega)) (fun i j hi hj => h2 i j (by omega) (by omega))
    rw [cprod_succ, cprod_succ, cprod_succ, ← ih]
    obtain ⟨n1, e1⟩ := h1 k (by omega)
    have cm : part (s k) (cprod s c' k (unit N)) = false := part_g (l := []) s k (fun j hj => h2 k j (by omega) (by omega))
    have nb := cprod_N (s := s) (c := c') (N := N) k
    have pa := cprod_ph (s := s) (c := c) (u_ph N) k
    have pb := cprod_ph (s := s) (c := c') (u_ph N) k
    generalize cprod s c k (unit N) = A at *
    generalize cprod s c' k (unit N) = B at *
    have com : mulP (s k) B = mulP B (s k) := mulP_comm (n1.trans nb.symm) cm
    unfold tw
    cases c k <;> cases c' k <;> simp only [cond_true, cond_false, Bool.xor_false, Bool.false_xor, Bool.xor_self, Bool.true_xor, Bool.not_false]
    · rw [mulP_assoc]
    · rw [mulP_assoc, com, mulP_assoc]
    · rw [mulP_assoc A (s k), ← mulP_assoc (s k) B (s k), com, mulP_assoc B (s k) (s k), mulP_self e1, mulP_unit_r pb.1 pb.2]
theorem Comm.facts {N : Int} {l : List Pl} (h : Comm N l) : (∀ j, j < l.length → (sAt l j).N = N ∧ (sAt l j).Ph % 2 = 0) ∧ (∀ i j, i < l.length → j < l.length → part (sAt l i) (sAt l j) = false) := by
  refine ⟨fun j hj => ?_, fun i j hi hj => ?_⟩
  · rw [sAt_lt hj]
    obtain ⟨a, _, b⟩ := one_iff.1 (h.1 j hj)
    exact ⟨a, b⟩
  · rw [sAt_lt hi, sAt_lt hj]
    exact h.2 i j hi hj
theorem InG.mul {N : Int} {l : List Pl} (h : Comm N l) {x y : Pl} (hx : InG N l x) (hy : InG N l y) : InG N l (mulP x y) := by
  obtain ⟨c, rfl⟩ := hx
  obtain ⟨c', rfl⟩ := hy
  obtain ⟨f1, f2⟩ := h.facts
  exact ⟨_, cprod_mul l.length f1 f2⟩
theorem InG.unit {N : Int} {l : List Pl} : InG N l (unit N) := ⟨fun _ => false, by
  have : ∀ k, cprod (sAt l) (fun _ => false) k (Ab.unit N) = Ab.unit N := fun k => by
    induction k with
    | zero => rfl
    | succ k ih => rw [cprod_succ, ih]; rfl
  exact (this _).symm⟩
theorem InG.row {N : Int} {l : List Pl} (h : Comm N l) {i : Nat} (hi : i < l.length) : InG N l l[i] := by
  refine ⟨fun j => decide (j = i), ?_⟩
  obtain ⟨a, b, _⟩ := one_iff.1 (h.1 i hi)
  obtain ⟨_, _, c, d, _, _⟩ := ok_iff.1 b
  rw [cprod_single, if_pos hi, sAt_lt hi, ← a, mulP_unit_l c d]
/-- All rows of a list lie in the group of another one. -/
def Sub (N : Int) (l l' : List Pl) : Prop := ∀ i (h : i < l.length), InG N l' l[i]
theorem Sub.in {N : Int} {l l' : List Pl} (h' : Comm N l') (s : Sub N l l') {x : Pl} (hx : InG N l x) : InG N l' x := by
  obtain ⟨c, rfl⟩ := hx
  have : ∀ k, k ≤ l.length → InG N l' (cprod (sAt l) c k (Ab.unit N)) := fun k => by
    induction k with
    | zero => exact fun _ => InG.unit
    | succ k ih =>
      intro hk
      rw [cprod_succ, tw]
      cases c k with
      | false => exact ih (by omega)
      | true =>
        rw [cond_true, sAt_lt (by omega : k < l.length)]
        exact (ih (by omega)).mul h' (s k (by omega))
  exact this _ (Nat.le_refl _)
theorem Sub.refl {N : Int} {l : List Pl} (h : Comm N l) : Sub N l l := fun i hi => InG.row h hi
theorem Sub.trans {N : Int} {l l' l'' : List Pl} (h'' : Comm N l'') (a : Sub N l l') (b : Sub N l' l'') : Sub N l l'' := fun i hi => b.in h'' (a i hi)
theorem comm_mul {N : Int} {p q : Pl} (hp : one N p = true) (hq : one N q = true) (h : part p q = false) : one N (mulP p q) = true := by
  obtain ⟨a, b, c⟩ := one_iff.1 hp
  obtain ⟨d, e, f⟩ := one_iff.1 hq
  obtain ⟨m1, m2⟩ := mulP_ok b e (a.trans d.symm)
  exact one_iff.2 ⟨m2.trans a, m1, mul_even b e c f h⟩
/-- One row turned by another one: the same group. -/
theorem mul_row {N : Int} {l : List Pl} (h : Comm N l) {i r : Nat} (hi : i < l.length) (hr : r < l.length) (hne : i ≠ r) :
    Comm N (l.set i (mulP l[i] l[r])) ∧ Sub N (l.set i (mulP l[i] l[r])) l ∧ Sub N l (l.set i (mulP l[i] l[r])) := by
  have get : ∀ k (hk : k < (l.set i (mulP l[i] l[r])).length), (l.set i (mulP l[i] l[r]))[k] = if k = i then mulP l[i] l[r] else l[k]'(by rw [List.length_set] at hk; exact hk) := fun k hk => by
    rw [List.getElem_set]
    by_cases q : i = k
    · rw [if_pos q, if_pos q.symm]
    · rw [if_neg q, if_neg (Ne.symm q)]
  have hc : Comm N (l.set i (mulP l[i] l[r])) := by
    refine ⟨fun k hk => ?_, fun k j hk hj => ?_⟩
    · rw [get k hk]
      rw [List.length_set] at hk
      by_cases q : k = i
      · rw [if_pos q]; exact comm_mul (h.1 i hi) (h.1 r hr) (h.2 i r hi hr)
      · rw [if_neg q]; exact h.1 k hk
    · rw [get k hk, get j hj]
      rw [List.length_set] at hk hj
      by_cases q : k = i
      · rw [if_pos q]
        by_cases q2 : j = i
        · rw [if_pos q2, part_mul, part_comm, part_mul, part_comm (mulP l[i] l[r]), part_mul, h.2 i i hi hi, h.2 i r hi hr, h.2 r i hr hi, h.2 r r hr hr]; rfl
        · rw [if_neg q2, part_comm, part_mul, h.2 j i hj hi, h.2 j r hj hr]; rfl
      · rw [if_neg q]
        by_cases q2 : j = i
        · rw [if_pos q2, part_mul, h.2 k i hk hi, h.2 k r hk hr]; rfl
        · rw [if_neg q2]; exact h.2 k j hk hj
  refine ⟨hc, fun k hk => ?_, fun k hk => ?_⟩
  · rw [get k hk]
    rw [List.length_set] at hk
    by_cases q : k = i
    · rw [if_pos q]; exact (InG.row h hi).mul h (InG.row h hr)
    · rw [if_neg q]; exact InG.row h hk
  · have row : ∀ j (hj : j < l.length), InG N (l.set i (mulP l[i] l[r])) ((l.set i (mulP l[i] l[r]))[j]'(by rw [List.length_set]; exact hj)) := fun j hj => InG.row hc (by rw [List.length_set]; exact hj)
    by_cases q : k = i
    · subst q
      have a1 := row k hk
      have a2 := row r hr
      rw [get] at a1 a2
      rw [if_pos rfl] at a1
      rw [if_neg (Ne.symm hne)] at a2
      have a3 := a1.mul hc a2
      obtain ⟨_, o1, _⟩ := one_iff.1 (h.1 k hk)
      obtain ⟨_, _, o2, o3, _, _⟩ := ok_iff.1 o1
      rw [mulP_assoc, mulP_self (one_iff.1 (h.1 r hr)).2.2, mulP_unit_r o2 o3] at a3
      exact a3
    · have a1 := row k hk
      rw [get, if_neg q] at a1
      exact a1
theorem swap_grp {N : Int} {l : List Pl} (h : Comm N l) {r j : Nat} (hr : r < l.length) (hj : j < l.length) : Comm N (swap l r j) ∧ Sub N (swap l r j) l ∧ Sub N l (swap l r j) := by
  have get := fun k (hk : k < l.length) => swap_row (l := l) hr hj hk
  have any : ∀ k (hk : k < l.length), ∃ i, ∃ hi : i < l.length, (swap l r j)[k]'(by rw [swap_len]; exact hk) = l[i] := fun k hk => by
    rw [get k hk]
    by_cases q : k = j
    · rw [if_pos q]; exact ⟨r, hr, rfl⟩
    · rw [if_neg q]
      by_cases q2 : k = r
      · rw [if_pos q2]; exact ⟨j, hj, rfl⟩
      · rw [if_neg q2]; exact ⟨k, hk, rfl⟩
  have hc : Comm N (swap l r j) := by
    refine ⟨fun k hk => ?_, fun k m hk hm => ?_⟩
    · rw [swap_len] at hk
      obtain ⟨i, hi, e⟩ := any k hk
      rw [e]; exact h.1 i hi
    · rw [swap_len] at hk hm
      obtain ⟨i, hi, e⟩ := any k hk
      obtain ⟨i', hi', e'⟩ := any m hm
      rw [e, e']; exact h.2 i i' hi hi'
  refine ⟨hc, fun k hk => ?_, fun k hk => ?_⟩
  · rw [swap_len] at hk
    obtain ⟨i, hi, e⟩ := any k hk
    rw [e]; exact InG.row h hi
  · have row : ∀ m (hm : m < l.length), InG N (swap l r j) ((swap l r j)[m]'(by rw [swap_len]; exact hm)) := fun m hm => InG.row hc (by rw [swap_len]; exact hm)
    by_cases q : k = j
    · have := row r hr
      rw [get r hr] at this
      by_cases q2 : r = j
      · subst q2; subst q; rw [if_pos rfl] at this; exact this
      · rw [if_neg q2, if_pos rfl] at this; subst q; exact this
    · by_cases q2 : k = r
      · have := row j hj
        rw [get j hj, if_pos rfl] at this
        subst q2; exact this
      · have := row k hk
        rw [get k hk, if_neg q, if_neg q2] at this
        exact this
def Grp (N : Int) (l l' : List Pl) : Prop := Comm N l' ∧ Sub N l' l ∧ Sub N l l'
theorem Grp.trans {N : Int} {l l' l'' : List Pl} (h : Comm N l) (a : Grp N l l') (b : Grp N l' l'') : Grp N l l'' := ⟨b.1, b.2.1.trans h a.2.1, a.2.2.trans b.1 b.2.2⟩
theorem Grp.refl {N : Int} {l : List Pl} (h : Comm N l) : Grp N l l := ⟨h, Sub.refl h, Sub.refl h⟩
theorem elimAt_grp {N : Int} {l : List Pl} (h : Comm N l) {n r c i : Nat} (hi : i < l.length) (hr : r < l.length) : Grp N l (elimAt n r c i l) := by
  by_cases e : i = r
  · subst e; rw [elimAt_r]; exact Grp.refl h
  · rw [elimAt_at e hi hr]
    cases colb l[i] n c with
    | false => exact Grp.refl h
    | true => exact mul_row h hi hr e
theorem elim_grp {N : Int} {n r c : Nat} : ∀ {m i : Nat} {l : List Pl}, Comm N l → i + m ≤ l.length → r < l.length → Grp N l (elim n r c m i l)
  | 0, _, _, h, _, _ => Grp.refl h
  | m + 1, i, l, h, h1, h2 => by
    have a := elimAt_grp h (n := n) (c := c) (by omega : i < l.length) h2
    exact a.trans h (elim_grp a.1 (by rw [elimAt_len]; omega) (by rw [elimAt_len]; exact h2))
theorem ech_grp {N : Int} (n : Nat) : ∀ (m row c : Nat) (l : List Pl), Comm N l → Grp N l (ech n m row c l).2
  | 0, _, _, _, h => Grp.refl h
  | m + 1, row, c, l, h => by
    rw [ech]
    cases ef : findRow l n c (l.length - row) row with
    | none => exact ech_grp n m row (c + 1) l h
    | some j =>
      obtain ⟨j1, j2, j3, _⟩ := findRow_some ef
      have a : Grp N l _ := swap_grp h (by omega : row < l.length) j3
      have b := elim_grp (n := n) (r := row) (c := c) (m := l.length) (i := 0) a.1 (by rw [swap_len]; omega) (by rw [swap_len]; omega)
      have ab := a.trans h b
      exact ab.trans h (ech_grp n m (row + 1) (c + 1) _ ab.1)
/-- A bit of a product. -/
theorem colb_cprod {N : Int} {s : Nat → Pl} {c : Nat → Bool} {n d : Nat} : ∀ k, colb (cprod s c k (unit N)) n d = xs c (fun j => colb (s j) n d) k
  | 0 => by
    show colb (unit N) n d = false
    exact colb_nought ⟨rfl, rfl⟩
  | k + 1 => by
    rw [cprod_succ, tw, xs]
    cases c k with
    | false => rw [cond_false, colb_cprod k]; simp
    | true => rw [cond_true, colb_mul, colb_cprod k]; simp
theorem xs_delta {c b : Nat → Bool} {i : Nat} : ∀ k, (∀ j, j < k → b j = decide (j = i)) → xs c b k = (decide (i < k) && c i)
  | 0, _ => by simp [xs]
  | k + 1, h => by
    rw [xs, xs_delta k (fun j hj => h j (by omega)), h k (by omega)]
    by_cases q : k = i
    · subst q; simp
    · rw [decide_eq_false q]
      have : decide (i < k) = decide (i < k + 1) := by
        by_cases q2 : i < k
        · rw [decide_eq_true q2, decide_eq_true (by omega)]
        · rw [decide_eq_false q2, decide_eq_false (by omega)]
      rw [this]; simp
theorem xs_zero {c b : Nat → Bool} : ∀ k, (∀ j, j < k → (c j && b j) = false) → xs c b k = false
  | 0, _ => rfl
  | k + 1, h => by rw [xs, xs_zero k (fun j hj => h j (by omega)), h k (by omega)]; rfl
/-- A form in which all rows lead. -/
structure Full (n : Nat) (l : List Pl) (piv : Nat → Nat) : Prop where
  inc : ∀ i j, i < j → j < l.length → piv i < piv j
  one : ∀ i k (h : k < l.length), i < l.length → colb l[k] n (piv i) = decide (k = i)
  lead : ∀ i (h : i < l.length), ∀ d, d < piv i → colb l[i] n d = false
theorem Full.coef {N : Int} {n : Nat} {l : List Pl} {piv : Nat → Nat} (f : Full n l piv) {c : Nat → Bool} {i : Nat} (hi : i < l.length) : colb (cprod (sAt l) c l.length (unit N)) n (piv i) = c i := by
  rw [colb_cprod, xs_delta (i := i) l.length (fun j hj => by rw [sAt_lt hj]; exact f.one i j hj hi), decide_eq_true hi, Bool.true_and]
theorem Full.det {N : Int} {n : Nat} {l : List Pl} {piv : Nat → Nat} (f : Full n l piv) {x y : Pl} (hx : InG N l x) (hy : InG N l y) (h : ∀ i, i < l.length → colb x n (piv i) = colb y n (piv i)) : x = y := by
  obtain ⟨c, rfl⟩ := hx
  obtain ⟨c', rfl⟩ := hy
  refine cprod_congr l.length fun j hj => ⟨?_, fun _ => rfl⟩
  have := h j hj
  rw [f.coef hj, f.coef hj] at this
  exact this
/-- The least of the named. -/
theorem least (c : Nat → Bool) : ∀ k, (∃ i, i < k ∧ c i = true ∧ ∀ j, j < i → c j = false) ∨ ∀ i, i < k → c i = false
  | 0 => .inr fun i hi => by omega
  | k + 1 => by
    rcases least c k with ⟨i, h1, h2, h3⟩ | h
    · exact .inl ⟨i, by omega, h2, h3⟩
    · cases e : c k with
      | true => exact .inl ⟨k, by omega, e, h⟩
      | false =>
        refine .inr fun i hi => ?_
        by_cases q : i = k
        · subst q; exact e
        · exact h i (by omega)
theorem Full.first {N : Int} {n : Nat} {l : List Pl} {piv : Nat → Nat} (f : Full n l piv) {x : Pl} (hx : InG N l x) {d : Nat} (h1 : colb x n d = true) (h2 : ∀ d', d' < d → colb x n d' = false) : ∃ i, i < l.length ∧ d = piv i := by
  obtain ⟨c, rfl⟩ := hx
  rcases least c l.length with ⟨i, hi, ci, hl⟩ | hz
  · refine ⟨i, hi, ?_⟩
    have low : ∀ d', d' < piv i → colb (cprod (sAt l) c l.length (unit N)) n d' = false := fun d' hd => by
      rw [colb_cprod]
      refine xs_zero _ fun j hj => ?_
      by_cases q : j < i
      · rw [hl j q]; rfl
      · rw [sAt_lt hj, f.lead j hj d' ?_, Bool.and_false]
        by_cases q2 : j = i
        · subst q2; exact hd
        · have := f.inc i j (by omega) hj; omega
    have top := f.coef (N := N) (c := c) hi
    rw [ci] at top
    by_cases q : d < piv i
    · rw [low d q] at h1; cases h1
    · by_cases q2 : piv i < d
      · rw [h2 _ q2] at top; cases top
      · omega
  · rw [colb_cprod, xs_zero _ (fun j hj => by rw [hz j hj]; rfl)] at h1
    cases h1
theorem full_piv {n : Nat} {l l' : List Pl} {piv piv' : Nat → Nat} (f : Full n l piv) (f' : Full n l' piv') (hl : l.length = l'.length) (h : ∀ i, i < l'.length → ∃ j, j < l.length ∧ piv' i = piv j) : ∀ i, i < l'.length → piv i ≤ piv' i := by
  have mono : ∀ i j, i ≤ j → j < l.length → piv i ≤ piv j := fun i j h1 h2 => by
    by_cases q : i = j
    · subst q; exact Nat.le_refl _
    · exact Nat.le_of_lt (f.inc i j (by omega) h2)
  have key : ∀ i, i < l'.length → ∃ j, i ≤ j ∧ j < l.length ∧ piv' i = piv j := fun i => by
    induction i with
    | zero =>
      intro hi
      obtain ⟨j, h1, h2⟩ := h 0 hi
      exact ⟨j, by omega, h1, h2⟩
    | succ i ih =>
      intro hi
      obtain ⟨j, h0, h1, h2⟩ := ih (by omega)
      obtain ⟨k, h3, h4⟩ := h (i + 1) hi
      refine ⟨k, ?_, h3, h4⟩
      have a := f'.inc i (i + 1) (by omega) hi
      by_cases q : k ≤ j
      · have := mono k j q h1; omega
      · omega
  intro i hi
  obtain ⟨j, h0, h1, h2⟩ := key i hi
  rw [h2]; exact mono i j h0 h1
/-- Two such forms of one group are the same. -/
theorem full_same {N : Int} {n : Nat} {l l' : List Pl} {piv piv' : Nat → Nat} (f : Full n l piv) (f' : Full n l' piv') (hl : l.length = l'.length) (h : Comm N l) (h' : Comm N l') (s : Sub N l' l) (s' : Sub N l l') : l = l' := by
  have e1 := full_piv f f' hl fun i hi => f.first (s i hi) (by rw [f'.one i i hi hi, decide_eq_true rfl]) (fun d hd => f'.lead i hi d hd)
  have e2 := full_piv f' f hl.symm fun i hi => f'.first (s' i hi) (by rw [f.one i i hi hi, decide_eq_true rfl]) (fun d hd => f.lead i hi d hd)
  refine List.ext_getElem hl fun i hi hi' => ?_
  refine f.det (N := N) (InG.row h hi) (s i hi') fun j hj => ?_
  have pe : piv j = piv' j := by
    have := e1 j (by omega)
    have := e2 j (by omega)
    omega
  rw [f.one j i hi hj, pe, f'.one j i hi' (by omega)]
theorem form_fullF {N : Int} {n : Nat} (hN : N = n) {l : List Pl} (hr : Rowy N l) (h : Dual l) : ∃ piv, Full n (form n l).2 piv := by
  obtain ⟨piv, e⟩ := form_ech n l
  have ff := form_full hN hr h
  have hl := (ech_row n (2 * n) 0 0 l (by omega)).2
  have hl' : (form n l).2.length = l.length := hl
  rw [ff, ← hl'] at e
  exact ⟨piv, e.inc, fun i k hk hi => e.one i k hk hi, fun i hi d hd => e.lead i hi hi d hd⟩
theorem form_same {N : Int} {S D S' D' : List Pl} {n : Nat} (t : Tab N S D n) (t' : Tab N S' D' n) (s : Sub N S' S) (s' : Sub N S S') : (form n S).2 = (form n S').2 := by
  obtain ⟨piv, f⟩ := form_fullF t.eN t.rS t.dual
  obtain ⟨piv', f'⟩ := form_fullF t'.eN t'.rS t'.dual
  have g := ech_grp n (2 * n) 0 0 S t.comm
  have g' := ech_grp n (2 * n) 0 0 S' t'.comm
  have l1 := (ech_row n (2 * n) 0 0 S (by omega)).2
  have l2 := (ech_row n (2 * n) 0 0 S' (by omega)).2
  have a := t.ls
  have b := t'.ls
  exact full_same f f' (by unfold form; omega) g.1 g'.1 (g'.2.1.trans g.1 (s.trans g.1 g.2.2)) (g.2.1.trans g'.1 (s'.trans g'.1 g'.2.2))
end Go.Proofs.YtogkkamlmklpkaaDoor.Ab
/- Plain law: the one form does not hang on the order of the strings, nor on one being multiplied with another: the law of Canon. No condition: lemmas only. -/
set_option maxRecDepth 100000
set_option linter.unusedVariables false
set_option linter.unusedSimpArgs false
namespace Go.Proofs.YtogkkamlmklpkaaDoor.Ab
open Go
theorem mod_idx (x : Int) {n : Nat} (h0 : 0 < n) (h : n ≤ 64) : ∃ i : Nat, i < n ∧ (BitVec.ofInt 64 x % BitVec.ofInt 64 (n : Int)).toInt = (i : Int) := by
  have hn : (BitVec.ofInt 64 (n : Int)).toNat = n := ofInt_nat (by omega)
  have hm : (BitVec.ofInt 64 x % BitVec.ofInt 64 (n : Int)).toNat < n := by
    rw [BitVec.toNat_umod, hn]; exact Nat.mod_lt _ h0
  refine ⟨_, hm, ?_⟩
  rw [BitVec.toInt_eq_toNat_of_lt (by omega)]
theorem P_Mul (F : Nat) (hF : 65 ≤ F) (p q : Pl) (hp : p.ok = true) (hq : q.ok = true) (hn : p.N = q.N) : Ppauli_Mul F p.N p.X p.Z p.Ph q.N q.X q.Z q.Ph = some ((mulP p q).N, (mulP p q).X, (mulP p q).Z, (mulP p q).Ph, 0) := by
  unfold Ppauli_Mul
  rw [P_pair, hp, hq, decide_eq_true hn]
  simp only [Bool.and_self, cond_true, P_times F hF p q hp hq]
theorem Tab.commD {N : Int} {S D : List Pl} {n : Nat} (t : Tab N S D n) : Comm N D := ⟨t.oD, t.dd⟩
theorem set_get {l : List Pl} {i : Nat} {x : Pl} {k : Nat} (hk : k < (l.set i x).length) : (l.set i x)[k] = if k = i then x else l[k]'(by rw [List.length_set] at hk; exact hk) := by
  rw [List.getElem_set]
  by_cases q : i = k
  · rw [if_pos q, if_pos q.symm]
  · rw [if_neg q, if_neg (Ne.symm q)]
/-- One stabilizer multiplied with another one. -/
theorem tab_mul {N : Int} {S D : List Pl} {n : Nat} (t : Tab N S D n) {i k : Nat} (hi : i < S.length) (hk : k < S.length) (hi' : i < D.length) (hk' : k < D.length) (hne : i ≠ k) :
    Tab N (S.set i (mulP S[i] S[k])) (D.set k (mulP D[k] D[i])) n := by
  have a := (mul_row t.comm hi hk hne).1
  have b := (mul_row t.commD hk' hi' (Ne.symm hne)).1
  refine ⟨t.eN, t.le, by rw [List.length_set]; exact t.ls, by rw [List.length_set]; exact t.ld, a.1, b.1, a.2, b.2, fun x y hx0 hy0 => ?_⟩
  rw [set_get hx0, set_get hy0]
  have hx : x < D.length := by rw [List.length_set] at hx0; exact hx0
  have hy : y < S.length := by rw [List.length_set] at hy0; exact hy0
  by_cases q : x = k
  · subst q
    rw [if_pos rfl]
    by_cases q2 : y = i
    · subst q2
      rw [if_pos rfl, part_mul, part_comm, part_mul, part_comm (mulP D[x] D[y]), part_mul, part_comm S[y], part_comm S[y], part_comm S[x], part_comm S[x], t.ds x y hk' hi, t.ds y y hi' hi, t.ds x x hk' hk, t.ds y x hi' hk]
      simp [hne, Ne.symm hne]
    · rw [if_neg q2, part_comm, part_mul, part_comm S[y], part_comm S[y], t.ds x y hk' hy, t.ds i y hi' hy, decide_eq_false (Ne.symm q2)]
      simp
  · rw [if_neg q]
    by_cases q2 : y = i
    · subst q2
      rw [if_pos rfl, part_mul, t.ds x y hx hi, t.ds x k hx hk, decide_eq_false q]
      simp
    · rw [if_neg q2]; exact t.ds x y hx hy
/-- Two of them in each other's place. -/
theorem tab_swap {N : Int} {S D : List Pl} {n : Nat} (t : Tab N S D n) {i k : Nat} (hi : i < S.length) (hk : k < S.length) (hi' : i < D.length) (hk' : k < D.length) : Tab N (swap S i k) (swap D i k) n := by
  have a := (swap_grp t.comm hi hk).1
  have b := (swap_grp t.commD hi' hk').1
  refine ⟨t.eN, t.le, by rw [swap_len]; exact t.ls, by rw [swap_len]; exact t.ld, a.1, b.1, a.2, b.2, fun x y hx hy => ?_⟩
  rw [swap_len] at hx hy
  rw [swap_row hi' hk' hx, swap_row hi hk hy]
  by_cases q : x = k
  · rw [if_pos q]
    by_cases q2 : y = k
    · rw [if_pos q2, t.ds i i hi' hi]; congr 1; apply propext; omega
    · rw [if_neg q2]
      by_cases q3 : y = i
      · rw [if_pos q3, t.ds i k hi' hk]; congr 1; apply propext; omega
      · rw [if_neg q3, t.ds i y hi' hy]; congr 1; apply propext; omega
  · rw [if_neg q]
    by_cases q1 : x = i
    · rw [if_pos q1]
      by_cases q2 : y = k
      · rw [if_pos q2, t.ds k i hk' hi]; congr 1; apply propext; omega
      · rw [if_neg q2]
        by_cases q3 : y = i
        · rw [if_pos q3, t.ds k k hk' hk]; congr 1; apply propext; omega
        · rw [if_neg q3, t.ds k y hk' hy]; congr 1; apply propext; omega
    · rw [if_neg q1]
      by_cases q2 : y = k
      · rw [if_pos q2, t.ds x i hx hi]; congr 1; apply propext; omega
      · rw [if_neg q2]
        by_cases q3 : y = i
        · rw [if_pos q3, t.ds x k hx hk]; congr 1; apply propext; omega
        · rw [if_neg q3, t.ds x y hx hy]
theorem sameA_true {N : Int} {S D S' D' : List Pl} {n : Nat} (t : Tab N S D n) (t' : Tab N S' D' n) (s : Sub N S' S) (s' : Sub N S S') : sameA N S D N S' D' = true := by
  unfold sameA
  rw [tab_chk t, tab_chk t', t.ls, t'.ls, form_same t t' s s']
  simp
/-- The law of Canon. -/
theorem law_tableauCanon (F : Nat) (hF : 266 ≤ F) (N : Int) (S D : List Pl) (a b : Int) (_ : S.length * 32 ≤ 140737488355328) (_ : D.length * 32 ≤ 140737488355328) (_ : 266 + S.length + D.length ≤ F) : Plaw14_TableauCanon F N S D a b = some true := by
  unfold Plaw14_TableauCanon
  rw [P_Check F (by omega)]
  cases hc : chk N S D with
  | false => rfl
  | true =>
    obtain ⟨n, t⟩ := chk_tab hc
    have hN := t.eN
    have hle := t.le
    have hs := t.ls
    have hd := t.ld
    simp only [if_true, Plaw14_num]
    by_cases h2 : N < 2
    · rw [if_pos h2]
    · rw [if_neg h2]
      have hn0 : ¬ BitVec.ofInt 64 N = 0#64 := fun e => by
        have : (BitVec.ofInt 64 (n : Int)).toNat = n := ofInt_nat (by omega)
        rw [← hN, e] at this
        simp at this
        omega
      obtain ⟨i, hi, ei⟩ := mod_idx a (by omega : 0 < n) hle
      obtain ⟨k, hk, ek⟩ := mod_idx b (by omega : 0 < n) hle
      rw [← hN] at ei ek
      rw [if_neg hn0, ei, ek]
      by_cases q : (i : Int) = (k : Int)
      · rw [if_pos q]
      · have hne : i ≠ k := by omega
        have i1 : i < S.length := by omega
        have i2 : i < D.length := by omega
        have k1 : k < S.length := by omega
        have k2 : k < D.length := by omega
        have n1 : ¬ S = [] := fun e => by rw [e] at hs; simp at hs; omega
        have n2 : ¬ D = [] := fun e => by rw [e] at hd; simp at hd; omega
        obtain ⟨a1, a2, _⟩ := one_iff.1 (t.oS i i1)
        obtain ⟨b1, b2, _⟩ := one_iff.1 (t.oS k k1)
        obtain ⟨c1, c2, _⟩ := one_iff.1 (t.oD i i2)
        obtain ⟨d1, d2, _⟩ := one_iff.1 (t.oD k k2)
        have tu := tab_mul t i1 k1 i2 k2 hne
        have tv := tab_swap t i1 k1 i2 k2
        have gu := (mul_row t.comm i1 k1 hne).2
        have gv := (swap_grp t.comm i1 k1).2
        have su := sameA_true t tu gu.1 gu.2
        have sv := sameA_true t tv gv.1 gv.2
        rw [if_neg q, R_Copy (by omega) (by omega)]
        simp only []
        rw [if_neg n1, if_neg n2, idx_lt i1, idx_lt k1, idx_lt i2, idx_lt k2]
        simp only [P_Mul F (by omega) S[i] S[k] a2 b2 (a1.trans b1.symm), P_Mul F (by omega) D[k] D[i] d2 c2 (d1.trans c1.symm), Int.toNat_natCast, if_true]
        rw [idx_lt (l := S.set i S[k]) (by rw [List.length_set]; exact k1), idx_lt (l := D.set i D[k]) (by rw [List.length_set]; exact k2)]
        simp only []
        rw [← swap_at i1 k1, ← swap_at i2 k2]
        have cu : Ptableau_Check F N (S.set i ⟨(mulP S[i] S[k]).N, (mulP S[i] S[k]).X, (mulP S[i] S[k]).Z, (mulP S[i] S[k]).Ph⟩) (D.set k ⟨(mulP D[k] D[i]).N, (mulP D[k] D[i]).X, (mulP D[k] D[i]).Z, (mulP D[k] D[i]).Ph⟩) = some 0 := by
          rw [P_Check F (by omega)]; rw [if_pos (tab_chk tu)]
        have cv : Ptableau_Check F N (swap S i k) (swap D i k) = some 0 := by
          rw [P_Check F (by omega)]; rw [if_pos (tab_chk tv)]
        have eu : Ptableau_Same F N S D N (S.set i ⟨(mulP S[i] S[k]).N, (mulP S[i] S[k]).X, (mulP S[i] S[k]).Z, (mulP S[i] S[k]).Ph⟩) (D.set k ⟨(mulP D[k] D[i]).N, (mulP D[k] D[i]).X, (mulP D[k] D[i]).Z, (mulP D[k] D[i]).Ph⟩) = some true := by
          rw [P_Same F (by omega)]; congr 1
        have ev : Ptableau_Same F N S D N (swap S i k) (swap D i k) = some true := by rw [P_Same F (by omega), sv]
        simp only [cu, cv, eu, ev, if_true, cond_true]
end Go.Proofs.YtogkkamlmklpkaaDoor.Ab
