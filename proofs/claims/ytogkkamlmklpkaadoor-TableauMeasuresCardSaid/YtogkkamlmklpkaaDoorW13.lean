/- Plain law: products of stabilizers, over a tableau and over the one after a string was put in. No condition: lemmas only. -/
import Derived.Test.YtogkkamlmklpkaaDoorW12
set_option maxRecDepth 100000
set_option linter.unusedVariables false
set_option linter.unusedSimpArgs false
namespace Go.Proofs.YtogkkamlmklpkaaDoor.Ab
open Go
/-- The product of those strings that c names, one behind the other. -/
def cprod (s : Nat → Pl) (c : Nat → Bool) : Nat → Pl → Pl
  | 0, a => a
  | k + 1, a => bif c k then mulP (cprod s c k a) (s k) else cprod s c k a
/-- Turned by a string, or not. -/
def tw (s : Pl) (b : Bool) (a : Pl) : Pl := bif b then mulP a s else a
theorem cprod_succ (s : Nat → Pl) (c : Nat → Bool) (k : Nat) (a : Pl) : cprod s c (k + 1) a = tw (s k) (c k) (cprod s c k a) := rfl
theorem ps_zero_r : ∀ (k a b : Nat), ps k a b 0 0 = 0
  | 0, _, _ => rfl
  | k + 1, a, b => by
    have : pw a b 0 0 = 0 := pw_zero _ _ _ _ (.inr ⟨rfl, rfl⟩)
    simp only [ps, this, Nat.zero_div, ps_zero_r k]
theorem mulP_unit_r {p : Pl} {M : Int} (h1 : 0 ≤ p.Ph) (h2 : p.Ph ≤ 3) : mulP p (unit M) = p := by
  unfold mulP unit
  obtain ⟨N, X, Z, Ph⟩ := p
  simp only [show (0#64).toNat = 0 from rfl, ps_zero_r, BitVec.xor_zero, Pl.mk.injEq, true_and]
  simp only at h1 h2
  omega
theorem mulP_ph (p q : Pl) : 0 ≤ (mulP p q).Ph ∧ (mulP p q).Ph ≤ 3 := by
  constructor
  · show 0 ≤ (_ : Int) % 4; omega
  · show (_ : Int) % 4 ≤ 3; omega
theorem tw_ph {s a : Pl} {b : Bool} (h : 0 ≤ a.Ph ∧ a.Ph ≤ 3) : 0 ≤ (tw s b a).Ph ∧ (tw s b a).Ph ≤ 3 := by
  unfold tw
  cases b with
  | false => exact h
  | true => exact mulP_ph _ _
theorem tw_tw {s a : Pl} {b c : Bool} (hs : s.Ph % 2 = 0) (h : 0 ≤ a.Ph ∧ a.Ph ≤ 3) : tw s b (tw s c a) = tw s (b ^^ c) a := by
  unfold tw
  cases b <;> cases c <;> simp only [cond_true, cond_false, Bool.xor_false, Bool.false_xor, Bool.xor_self, Bool.true_xor, Bool.not_true, Bool.not_false]
  rw [mulP_assoc, mulP_self hs, mulP_unit_r h.1 h.2]
theorem tw_comm {s x a : Pl} {b c : Bool} (hn : s.N = x.N) (hc : part s x = false) : tw x c (tw s b a) = tw s b (tw x c a) := by
  unfold tw
  cases b <;> cases c <;> simp only [cond_true, cond_false]
  rw [mulP_assoc, mulP_assoc, mulP_comm hn hc]
theorem cprod_ph {s : Nat → Pl} {c : Nat → Bool} {a : Pl} (h : 0 ≤ a.Ph ∧ a.Ph ≤ 3) : ∀ k, 0 ≤ (cprod s c k a).Ph ∧ (cprod s c k a).Ph ≤ 3
  | 0 => h
  | k + 1 => by rw [cprod_succ]; exact tw_ph (cprod_ph h k)
theorem cprod_tw {s : Nat → Pl} {c : Nat → Bool} {x a : Pl} {b : Bool} : ∀ k, (∀ j, j < k → x.N = (s j).N ∧ part x (s j) = false) → cprod s c k (tw x b a) = tw x b (cprod s c k a)
  | 0, _ => rfl
  | k + 1, h => by
    rw [cprod_succ, cprod_succ, cprod_tw k (fun j hj => h j (by omega)), tw_comm (h k (by omega)).1 (h k (by omega)).2]
theorem cprod_congr {s s' : Nat → Pl} {c c' : Nat → Bool} {a : Pl} : ∀ k, (∀ j, j < k → c j = c' j ∧ (c j = true → s j = s' j)) → cprod s c k a = cprod s' c' k a
  | 0, _ => rfl
  | k + 1, h => by
    rw [cprod_succ, cprod_succ, cprod_congr k (fun j hj => h j (by omega))]
    obtain ⟨h1, h2⟩ := h k (by omega)
    rw [← h1]
    unfold tw
    cases e : c k with
    | false => rfl
    | true => rw [cond_true, cond_true, h2 e]
/-- How many of the named strings are turned: odd? -/
def xs (c b : Nat → Bool) : Nat → Bool
  | 0 => false
  | k + 1 => xs c b k ^^ (c k && b k)
/-- Strings turned by s: their product is the old one turned as often. -/
theorem cprod_turn {s : Nat → Pl} {c b : Nat → Bool} {x a : Pl} (hx : x.Ph % 2 = 0) (ha : 0 ≤ a.Ph ∧ a.Ph ≤ 3) : ∀ k, (∀ j, j < k → x.N = (s j).N ∧ part x (s j) = false) →
    cprod (fun j => tw x (b j) (s j)) c k a = tw x (xs c b k) (cprod s c k a)
  | 0, _ => rfl
  | k + 1, h => by
    rw [cprod_succ, cprod_succ, cprod_turn hx ha k (fun j hj => h j (by omega))]
    obtain ⟨h1, h2⟩ := h k (by omega)
    show tw (tw x (b k) (s k)) (c k) (tw x (xs c b k) (cprod s c k a)) = tw x (xs c b k ^^ (c k && b k)) (tw (s k) (c k) (cprod s c k a))
    have hp := cprod_ph (s := s) (c := c) ha k
    generalize cprod s c k a = A at *
    cases e : c k with
    | false => simp only [Bool.false_and, Bool.xor_false]; rfl
    | true =>
      simp only [Bool.true_and]
      have e1 : tw (tw x (b k) (s k)) true (tw x (xs c b k) A) = tw x (b k) (tw (s k) true (tw x (xs c b k) A)) := by
        unfold tw
        cases b k with
        | false => rfl
        | true => simp only [cond_true]; rw [mulP_assoc]
      rw [e1, tw_comm h1 h2, tw_tw hx (tw_ph hp), Bool.xor_comm]
/-- One string, taken out of the row and put behind. -/
theorem cprod_out {s : Nat → Pl} {c : Nat → Bool} {a : Pl} {p : Nat} (ha : 0 ≤ a.Ph ∧ a.Ph ≤ 3) : ∀ k, (∀ j, j < k → (s p).N = (s j).N ∧ part (s p) (s j) = false) →
    cprod s c k a = tw (s p) (decide (p < k) && c p) (cprod s (fun j => c j && !decide (j = p)) k a)
  | 0, _ => by simp [cprod, tw]
  | k + 1, h => by
    obtain ⟨h1, h2⟩ := h k (by omega)
    rw [cprod_succ, cprod_succ, cprod_out ha k (fun j hj => h j (by omega))]
    by_cases e : k = p
    · subst e
      rw [decide_eq_false (by omega : ¬ k < k), decide_eq_true (by omega : k < k + 1)]
      simp [tw]
    · rw [decide_eq_false e, tw_comm h1 h2]
      have : decide (p < k) = decide (p < k + 1) := by
        by_cases q : p < k
        · rw [decide_eq_true q, decide_eq_true (by omega)]
        · rw [decide_eq_false q, decide_eq_false (by omega)]
      rw [this]
      simp
/-- What parts with a product. -/
theorem part_cprod {s : Nat → Pl} {c : Nat → Bool} {a m : Pl} : ∀ k, part m (cprod s c k a) = (xs c (fun j => part m (s j)) k ^^ part m a)
  | 0 => by simp [cprod, xs]
  | k + 1 => by
    rw [cprod_succ, xs, tw]
    cases c k with
    | false => rw [cond_false, part_cprod k]; simp
    | true =>
      rw [cond_true, part_mul, part_cprod k, Bool.true_and]
      cases xs c (fun j => part m (s j)) k <;> cases part m a <;> cases part m (s k) <;> rfl
theorem xs_congr {c c' b b' : Nat → Bool} : ∀ k, (∀ j, j < k → (c j && b j) = (c' j && b' j)) → xs c b k = xs c' b' k
  | 0, _ => rfl
  | k + 1, h => by rw [xs, xs, xs_congr k (fun j hj => h j (by omega)), h k (by omega)]
theorem xs_out {c b : Nat → Bool} {p : Nat} : ∀ k, xs c b k = (xs (fun j => c j && !decide (j = p)) b k ^^ (decide (p < k) && (c p && b p)))
  | 0 => by simp [xs]
  | k + 1 => by
    rw [xs, xs, xs_out k (p := p)]
    by_cases e : k = p
    · subst e
      rw [decide_eq_false (by omega : ¬ k < k), decide_eq_true (by omega : k < k + 1)]
      simp
    · rw [decide_eq_false e]
      have : decide (p < k) = decide (p < k + 1) := by
        by_cases q : p < k
        · rw [decide_eq_true q, decide_eq_true (by omega)]
        · rw [decide_eq_false q, decide_eq_false (by omega)]
      rw [this]
      simp only [Bool.not_false, Bool.and_true]
      cases xs (fun j => c j && !decide (j = p)) b k <;> cases (c k && b k) <;> cases (decide (p < k + 1) && (c p && b p)) <;> rfl
/-- The walk is such a product. -/
def sAt (S : List Pl) (j : Nat) : Pl := match S[j]? with | some s => s | none => unit 0
theorem sAt_lt {S : List Pl} {j : Nat} (h : j < S.length) : sAt S j = S[j] := by unfold sAt; rw [List.getElem?_eq_getElem h]
theorem walk_from {S D : List Pl} {z : Pl} : ∀ (m i : Nat) (a : Pl), i + m ≤ S.length → i + m ≤ D.length → ∀ u, a = cprod (sAt S) (fun j => part (sAt D j) z) i u → walkS S D z m i a = cprod (sAt S) (fun j => part (sAt D j) z) (i + m) u
  | 0, i, a, _, _, u, e => e
  | m + 1, i, a, h1, h2, u, e => by
    rw [walkS, show i + (m + 1) = i + 1 + m by omega]
    refine walk_from m (i + 1) _ (by omega) (by omega) u ?_
    rw [stepS_at (by omega) (by omega), cprod_succ, ← e, sAt_lt (by omega), sAt_lt (by omega)]
    rfl
theorem walk_cprod {S D : List Pl} {z : Pl} {n : Nat} (h1 : n ≤ S.length) (h2 : n ≤ D.length) (u : Pl) : walkS S D z n 0 u = cprod (sAt S) (fun j => part (sAt D j) z) n u := by
  have := walk_from (S := S) (D := D) (z := z) n 0 u (by omega) (by omega) u rfl
  rwa [Nat.zero_add] at this
end Go.Proofs.YtogkkamlmklpkaaDoor.Ab
