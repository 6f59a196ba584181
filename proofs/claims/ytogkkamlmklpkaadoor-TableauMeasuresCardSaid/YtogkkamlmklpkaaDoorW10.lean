/- Plain law: a tableau with a string put in is in order again; Overlap; the law of Force. No condition: lemmas only. -/
import Derived.Test.YtogkkamlmklpkaaDoorW9
set_option maxRecDepth 100000
set_option linter.unusedVariables false
set_option linter.unusedSimpArgs false
namespace Go.Proofs.YtogkkamlmklpkaaDoor.Ab
open Go
theorem tab_chk {N : Int} {S D : List Pl} {n : Nat} (t : Tab N S D n) : chk N S D = true := by
  have hN := t.eN
  have hle := t.le
  have hS := t.ls
  have hD := t.ld
  unfold chk
  simp only [Bool.and_eq_true, decide_eq_true_eq]
  refine ⟨⟨⟨⟨by omega, by omega⟩, by omega⟩, by omega⟩, allFrom_iff.2 fun k _ h => ?_, allFrom_iff.2 fun k _ h => allFrom_iff.2 fun j _ h' => ?_⟩
  · have k1 : k < S.length := by omega
    have k2 : k < D.length := by omega
    unfold oneAt
    rw [List.getElem?_eq_getElem k1, List.getElem?_eq_getElem k2]
    simp only [t.oS k k1, t.oD k k2, Bool.and_self]
  · have k1 : k < S.length := by omega
    have k2 : k < D.length := by omega
    have j1 : j < S.length := by omega
    have j2 : j < D.length := by omega
    unfold two
    rw [List.getElem?_eq_getElem k1, List.getElem?_eq_getElem k2, List.getElem?_eq_getElem j1, List.getElem?_eq_getElem j2]
    simp only [t.ss k j k1 j1, t.dd k j k2 j2, t.ds k j k2 j1, Bool.not_false, Bool.true_and, beq_self_eq_true]
theorem turnFrom_get {s z : Pl} {p : Nat} : ∀ {m i : Nat} {l : List Pl} {k : Nat}, (turnFrom s z p m i l)[k]? = if i ≤ k ∧ k < i + m then (turnAt s z p k l)[k]? else l[k]?
  | 0, i, l, k => by rw [if_neg (by omega)]; rfl
  | m + 1, i, l, k => by
    rw [turnFrom, turnFrom_get]
    by_cases h1 : i + 1 ≤ k ∧ k < i + 1 + m
    · rw [if_pos h1, if_pos (by omega)]
      have hk : (turnAt s z p i l)[k]? = l[k]? := turnAt_get (by omega)
      have : ∀ l' : List Pl, l'[k]? = l[k]? → (turnAt s z p k l')[k]? = (turnAt s z p k l)[k]? := fun l' e => by
        unfold turnAt
        by_cases e2 : k = p
        · rw [if_pos e2, if_pos e2]; exact e
        · rw [if_neg e2, if_neg e2, e]
          cases hl : l[k]? with
          | none => simp only []; rw [e, hl]
          | some v =>
            simp only []
            cases part v z with
            | false => simp only [cond_false]; rw [e, hl]
            | true =>
              obtain ⟨a, _⟩ := List.getElem?_eq_some_iff.1 hl
              obtain ⟨b, _⟩ := List.getElem?_eq_some_iff.1 (e.trans hl)
              simp only [cond_true]
              rw [List.getElem?_set_self a, List.getElem?_set_self b]
      exact this _ hk
    · rw [if_neg h1]
      by_cases h2 : k = i
      · subst h2; rw [if_pos (by omega)]
      · rw [if_neg (by omega), turnAt_get h2]
/-- A row of the tableau after. -/
def rowT (s z v : Pl) : Pl := bif part v z then mulP v s else v
theorem turnFrom_row {s z : Pl} {p n : Nat} {l : List Pl} (hl : l.length = n) {k : Nat} (hk : k < n) (hp : k ≠ p) : (turnFrom s z p n 0 l)[k]? = some (rowT s z (l[k]'(by omega))) := by
  have k1 : k < l.length := by omega
  rw [turnFrom_get, if_pos (by omega), turnAt_i hp k1]
  unfold rowT
  cases part l[k] z with
  | false => simp only [cond_false]; rw [List.getElem?_eq_getElem k1]
  | true => simp only [cond_true]; rw [List.getElem?_set_self k1]
theorem mul_even {p q : Pl} (hp : p.ok = true) (hq : q.ok = true) (h1 : p.Ph % 2 = 0) (h2 : q.Ph % 2 = 0) (hc : part p q = false) : (mulP p q).Ph % 2 = 0 := by
  obtain ⟨_, _, p1, p2, _, _⟩ := ok_iff.1 hp
  obtain ⟨_, _, q1, q2, _, _⟩ := ok_iff.1 hq
  have ho := ps_odd 64 p.X.toNat p.Z.toNat q.X.toNat q.Z.toNat p.X.isLt p.Z.isLt q.X.isLt q.Z.isLt
  unfold part om at hc
  rw [decide_eq_false_iff_not] at hc
  show (p.Ph + q.Ph + (ps 64 p.X.toNat p.Z.toNat q.X.toNat q.Z.toNat : Nat)) % 4 % 2 = 0
  generalize ps 64 p.X.toNat p.Z.toNat q.X.toNat q.Z.toNat = a at *
  generalize popN ((p.X.toNat &&& q.Z.toNat) ^^^ (p.Z.toNat &&& q.X.toNat)) = b at *
  omega
/-- The letters alone. -/
def vec (p : Pl) : Nat × Nat := (p.X.toNat, p.Z.toNat)
theorem part_vec (p q : Pl) : part p q = omv (vec p) (vec q) := rfl
theorem vec_mul (p q : Pl) : vec (mulP p q) = vx (vec p) (vec q) := by unfold vec vx mulP; simp only [BitVec.toNat_xor]
theorem vec_row (s z v : Pl) : vec (rowT s z v) = turned (vec s) (vec z) (vec v) := by
  unfold rowT turned
  rw [← part_vec]
  cases part v z with
  | false => rfl
  | true => rw [cond_true, cond_true, vec_mul]
def vecs (l : List Pl) (i : Nat) : Nat × Nat := match l[i]? with | some p => vec p | none => (0, 0)
theorem vecs_at {l : List Pl} {i : Nat} (h : i < l.length) : vecs l i = vec l[i] := by unfold vecs; rw [List.getElem?_eq_getElem h]
theorem Tab.sym {N : Int} {S D : List Pl} {n : Nat} (t : Tab N S D n) : Sym n (vecs S) (vecs D) := by
  have hS := t.ls
  have hD := t.ld
  exact ⟨fun i j hi hj => by rw [vecs_at (by omega), vecs_at (by omega)]; exact t.ss i j (by omega) (by omega),
    fun i j hi hj => by rw [vecs_at (by omega), vecs_at (by omega)]; exact t.dd i j (by omega) (by omega),
    fun i j hi hj => by rw [vecs_at (by omega), vecs_at (by omega)]; exact t.ds i j (by omega) (by omega)⟩
theorem tab_put {N : Int} {S D : List Pl} {n : Nat} (t : Tab N S D n) {z : Pl} (hz : one N z = true) {p : Nat} (hp : p < n) (hz2 : part (S[p]'(by rw [t.ls]; exact hp)) z = true) : Tab N (putS S z n p) (putD S D z n p) n := by
  have hS := t.ls
  have hD := t.ld
  have p1 : p < S.length := by omega
  have eS : ∀ i (hi : i < n), (putS S z n p)[i]? = some (if i = p then z else rowT S[p] z (S[i]'(by rw [hS]; exact hi))) := fun i hi => by
    unfold putS
    rw [List.getElem?_eq_getElem p1]
    simp only []
    by_cases e : i = p
    · subst e; rw [if_pos rfl, List.getElem?_set_self (by rw [turnFrom_len]; omega)]
    · rw [if_neg e, List.getElem?_set_ne (Ne.symm e), turnFrom_row hS hi e]
  have eD : ∀ i (hi : i < n), (putD S D z n p)[i]? = some (if i = p then S[p] else rowT S[p] z (D[i]'(by rw [hD]; exact hi))) := fun i hi => by
    unfold putD
    rw [List.getElem?_eq_getElem p1]
    simp only []
    by_cases e : i = p
    · subst e; rw [if_pos rfl, List.getElem?_set_self (by rw [turnFrom_len]; omega)]
    · rw [if_neg e, List.getElem?_set_ne (Ne.symm e), turnFrom_row hD hi e]
  have lS : (putS S z n p).length = n := by rw [putS_len]; exact hS
  have lD : (putD S D z n p).length = n := by rw [putD_len]; exact hD
  have gS : ∀ i (h : i < (putS S z n p).length), (putS S z n p)[i] = if i = p then z else rowT S[p] z (S[i]'(by omega)) := fun i h => by
    have := eS i (by rw [lS] at h; exact h)
    rw [List.getElem?_eq_getElem h] at this
    exact Option.some.inj this
  have gD : ∀ i (h : i < (putD S D z n p).length), (putD S D z n p)[i] = if i = p then S[p] else rowT S[p] z (D[i]'(by omega)) := fun i h => by
    have := eD i (by rw [lD] at h; exact h)
    rw [List.getElem?_eq_getElem h] at this
    exact Option.some.inj this
  obtain ⟨s1, s2, s3⟩ := one_iff.1 (t.oS p p1)
  have oneRow : ∀ v : Pl, one N v = true → part v S[p] = false → one N (rowT S[p] z v) = true := fun v hv hc => by
    unfold rowT
    cases part v z with
    | false => exact hv
    | true =>
      obtain ⟨v1, v2, v3⟩ := one_iff.1 hv
      obtain ⟨m1, m2⟩ := mulP_ok v2 s2 (v1.trans s1.symm)
      exact one_iff.2 ⟨m2.trans v1, m1, mul_even v2 s2 v3 s3 hc⟩
  have sym := t.sym.put hp (z := vec z) (by rw [vecs_at p1]; exact hz2)
  have vS : ∀ i (h : i < (putS S z n p).length), vec (putS S z n p)[i] = (fun i => if i = p then vec z else turned (vecs S p) (vec z) (vecs S i)) i := fun i h => by
    rw [gS i h]
    by_cases e : i = p
    · simp only [e, if_true]
    · simp only [if_neg e]
      rw [vec_row, vecs_at p1, vecs_at]
  have vD : ∀ i, (h : i < (putD S D z n p).length) → vec (putD S D z n p)[i] = (fun i => if i = p then vecs S p else turned (vecs S p) (vec z) (vecs D i)) i := fun i h => by
    rw [gD i h]
    by_cases e : i = p
    · simp only [e, if_true]; rw [vecs_at p1]
    · simp only [if_neg e]
      rw [vec_row, vecs_at p1, vecs_at]
  refine ⟨t.eN, t.le, lS, lD, fun i h => ?_, fun i h => ?_, fun i j h k => ?_, fun i j h k => ?_, fun i j h k => ?_⟩
  · rw [gS i h]
    by_cases e : i = p
    · rw [if_pos e]; exact hz
    · rw [if_neg e]; exact oneRow _ (t.oS i (by omega)) (t.ss i p (by omega) p1)
  · rw [gD i h]
    by_cases e : i = p
    · rw [if_pos e]; exact t.oS p p1
    · rw [if_neg e]; exact oneRow _ (t.oD i (by omega)) (by rw [t.ds i p (by omega) p1]; exact decide_eq_false e)
  · rw [part_vec, vS i h, vS j k]; exact sym.ss i j (by omega) (by omega)
  · rw [part_vec, vD i h, vD j k]; exact sym.dd i j (by omega) (by omega)
  · rw [part_vec, vD i h, vS j k]; exact sym.ds i j (by omega) (by omega)
end Go.Proofs.YtogkkamlmklpkaaDoor.Ab
