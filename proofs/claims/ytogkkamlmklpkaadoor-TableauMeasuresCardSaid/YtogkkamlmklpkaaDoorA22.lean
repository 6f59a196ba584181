/- Lists as contents: what is read of them, put into them, cut out of them. No condition: lemmas only. -/
import Derived.Test.YtogkkamlmklpkaaDoorA21
set_option linter.unusedVariables false
set_option linter.unusedSimpArgs false
namespace Go.Proofs.YtogkkamlmklpkaaDoor.Ab
open Go

/-- A list's contents: each element's cells in a row. -/
def enc {α : Type} (c : α → List AV) : List α → List AV
  | [] => []
  | x :: l => c x ++ enc c l
/-- An element. -/
def idx {α : Type} (l : List α) (j : Int) : Option α := if 0 ≤ j then l[j.toNat]? else none
theorem idx_nat {α : Type} (l : List α) (j : Nat) : idx l (j : Int) = l[j]? := by simp [idx]
theorem idx_some {α : Type} {l : List α} {j : Int} {x : α} (h : idx l j = some x) : 0 ≤ j ∧ j.toNat < l.length ∧ l[j.toNat]? = some x := by
  unfold idx at h
  split at h
  · rename_i h0
    exact ⟨h0, (List.getElem?_eq_some_iff.1 h).1, h⟩
  · cases h
theorem idx_inb {α : Type} {l : List α} {j : Int} {x : α} (h : idx l j = some x) : inb j l.length = true := by
  obtain ⟨h0, h1, _⟩ := idx_some h
  exact inb_lt ⟨h0, by omega⟩
theorem idx_out {α : Type} {l : List α} {j : Int} (h : idx l j = none) : inb j l.length = false := by
  unfold idx at h
  unfold inb
  split at h
  · rename_i h0
    have := List.getElem?_eq_none_iff.1 h
    simp; omega
  · rename_i h0
    simp; omega
theorem enc_nil {α : Type} {c : α → List AV} : enc c [] = [] := rfl
theorem enc_cons {α : Type} {c : α → List AV} {x : α} {l : List α} : enc c (x :: l) = c x ++ enc c l := rfl
theorem enc_append {α : Type} {c : α → List AV} : ∀ {l m : List α}, enc c (l ++ m) = enc c l ++ enc c m
  | [], m => rfl
  | x :: l, m => by simp only [List.cons_append, enc, enc_append, List.append_assoc]

section
variable {α : Type} {c : α → List AV} {w : Nat}
theorem enc_len (hw : ∀ x, (c x).length = w) : ∀ l : List α, (enc c l).length = l.length * w
  | [] => by simp [enc]
  | x :: l => by simp only [enc, List.length_append, hw, enc_len hw l, List.length_cons, Nat.add_mul, Nat.one_mul]; omega
theorem enc_all {p : AV → Bool} (hw : ∀ x, (c x).all p = true) : ∀ l : List α, (enc c l).all p = true
  | [] => rfl
  | x :: l => by simp only [enc, List.all_append, hw, enc_all hw l, Bool.and_self]
theorem enc_nors (hw : ∀ x, AV.nors (c x) = true) : ∀ l : List α, AV.nors (enc c l) = true
  | [] => rfl
  | x :: l => by simp only [enc, nors_append, hw, enc_nors hw l, Bool.and_self]
theorem enc_take (hw : ∀ x, (c x).length = w) (l : List α) : (enc c l).take (l.length * w) = enc c l := List.take_of_length_le (by rw [enc_len hw]; exact Nat.le_refl _)
theorem enc_dropw (hw : ∀ x, (c x).length = w) : ∀ (l : List α) (k : Nat), (enc c l).drop (k * w) = enc c (l.drop k)
  | [], k => by simp [enc]
  | x :: l, 0 => by simp
  | x :: l, k + 1 => by
    simp only [enc, List.drop_succ_cons]
    rw [Nat.add_mul, Nat.one_mul, Nat.add_comm, ← List.drop_drop, List.drop_left' (hw x), enc_dropw hw l k]
theorem enc_takew (hw : ∀ x, (c x).length = w) : ∀ (l : List α) (k : Nat), (enc c l).take (k * w) = enc c (l.take k)
  | [], k => by simp [enc]
  | x :: l, 0 => by simp [enc]
  | x :: l, k + 1 => by
    simp only [enc, List.take_succ_cons]
    rw [Nat.add_mul, Nat.one_mul, Nat.add_comm, List.take_append, hw x, List.take_of_length_le (by rw [hw]; omega), show w + k * w - w = k * w by omega, enc_takew hw l k]
theorem enc_part (hw : ∀ x, (c x).length = w) (l : List α) (a n : Nat) : ((enc c l).drop (a * w)).take (n * w) = enc c ((l.drop a).take n) := by rw [enc_dropw hw, enc_takew hw]
/-- An element's cells. -/
theorem enc_at (hw : ∀ x, (c x).length = w) {l : List α} {j : Int} {x : α} (h : idx l j = some x) : ∃ r, (enc c l).drop (j.toNat * w) = c x ++ r := by
  obtain ⟨_, h1, h2⟩ := idx_some h
  rw [enc_dropw hw]
  have : l.drop j.toNat = x :: l.drop (j.toNat + 1) := by
    rw [List.drop_eq_getElem_cons h1]
    congr 1
    have := (List.getElem?_eq_some_iff.1 h2).2
    exact this
  rw [this]
  exact ⟨_, rfl⟩
theorem vp_row (hw : ∀ x, (c x).length = w) {l : List α} {j : Int} {x : α} (h : idx l j = some x) : apart_ ((enc c l).drop (j.toNat * w)) 0 (some w) = some (.agg (c x)) := by
  obtain ⟨r, hr⟩ := enc_at hw h
  rw [hr]
  simp only [apart_, Nat.zero_add, List.drop_zero]
  rw [nble_dec, List.length_append, hw]
  simp only [Nat.le_add_right, decide_true, cond_true]
  rw [List.take_left' (hw x)]
theorem vp_cell (hw : ∀ x, (c x).length = w) {l : List α} {j : Int} {x : α} {k : Nat} (h : idx l j = some x) (hk : k < w) : apart_ (((enc c l).drop (j.toNat * w)).drop k) 0 none = (c x)[k]? := by
  obtain ⟨r, hr⟩ := enc_at hw h
  rw [hr]
  simp only [apart_, List.getElem?_drop, Nat.add_zero]
  rw [List.getElem?_append_left (by rw [hw]; exact hk)]
theorem vp_cell0 (hw : ∀ x, (c x).length = w) {l : List α} {j : Int} {x : α} (h : idx l j = some x) (hk : 0 < w) : apart_ ((enc c l).drop (j.toNat * w)) 0 none = (c x)[0]? := by
  obtain ⟨r, hr⟩ := enc_at hw h
  rw [hr]
  simp only [apart_]
  rw [List.getElem?_append_left (by rw [hw]; exact hk)]
theorem own_row (hw : ∀ x, (c x).length = w) {l : List α} {j : Int} {x : α} (h : idx l j = some x) : apart_ (enc c l) (j.toNat * w) (some w) = some (.agg (c x)) := by
  have := vp_row hw h
  obtain ⟨r, hr⟩ := enc_at hw h
  obtain ⟨_, h1, _⟩ := idx_some h
  simp only [apart_]
  rw [hr, List.take_left' (hw x), nble_dec, enc_len hw]
  have : j.toNat * w + w ≤ l.length * w := by rw [← Nat.succ_mul]; exact Nat.mul_le_mul_right _ h1
  simp only [this, decide_true, cond_true]
theorem own_cell (hw : ∀ x, (c x).length = w) {l : List α} {j : Int} {x : α} {k : Nat} (h : idx l j = some x) (hk : k < w) : apart_ (enc c l) (j.toNat * w + k) none = (c x)[k]? := by
  have := vp_cell hw h hk
  simp only [apart_, List.getElem?_drop, Nat.add_zero] at this ⊢
  exact this
theorem own_cell0 (hw : ∀ x, (c x).length = w) {l : List α} {j : Int} {x : α} (h : idx l j = some x) (hk : 0 < w) : apart_ (enc c l) (j.toNat * w) none = (c x)[0]? := own_cell (k := 0) hw h hk
theorem own_room (hw : ∀ x, (c x).length = w) {l : List α} {j : Int} {x : α} {k n : Nat} (h : idx l j = some x) (hk : k + n ≤ w) : Nat.ble (j.toNat * w + k + n) (enc c l).length = true := by
  obtain ⟨_, h1, _⟩ := idx_some h
  rw [nble_dec, enc_len hw]
  have : j.toNat * w + w ≤ l.length * w := by rw [← Nat.succ_mul]; exact Nat.mul_le_mul_right _ h1
  simp only [decide_eq_true_eq]; omega
/-- An element is put anew: some of its cells. -/
theorem enc_splice (hw : ∀ x, (c x).length = w) : ∀ {l : List α} {j : Nat} {x y : α} {k : Nat} {vs : List AV}, l[j]? = some x → k + vs.length ≤ w → splice (c x) k vs = c y → splice (enc c l) (j * w + k) vs = enc c (l.set j y)
  | [], j, x, y, k, vs, h, _, _ => by simp at h
  | z :: l, 0, x, y, k, vs, h, hk, e => by
    simp at h; subst h
    simp only [enc, Nat.zero_mul, Nat.zero_add, List.set_cons_zero]
    rw [← e, splice_eq vs (c z) k (by rw [hw]; exact hk), splice_eq vs _ k (by rw [List.length_append, hw]; omega)]
    rw [List.take_append_of_le_length (by rw [hw]; omega), List.drop_append_of_le_length (by rw [hw]; omega)]
    simp only [List.append_assoc]
  | z :: l, j + 1, x, y, k, vs, h, hk, e => by
    simp at h
    have hlt : j < l.length := (List.getElem?_eq_some_iff.1 h).1
    have ih := enc_splice hw (l := l) h hk e
    have h1 : j * w + w ≤ l.length * w := by rw [← Nat.succ_mul]; exact Nat.mul_le_mul_right _ hlt
    simp only [enc, List.set_cons_succ]
    rw [← ih, splice_eq vs (enc c l) (j * w + k) (by rw [enc_len hw]; omega), splice_eq vs _ ((j + 1) * w + k) (by rw [List.length_append, hw, enc_len hw]; rw [Nat.succ_mul]; omega)]
    have e1 : (j + 1) * w + k = w + (j * w + k) := by rw [Nat.succ_mul]; omega
    rw [e1, List.take_append, hw, List.take_of_length_le (by rw [hw]; omega), show w + (j * w + k) - w = j * w + k by omega]
    rw [show w + (j * w + k) + vs.length = w + (j * w + k + vs.length) by omega, List.drop_append, hw, List.drop_of_length_le (by rw [hw]; omega), show w + (j * w + k + vs.length) - w = j * w + k + vs.length by omega]
    simp only [List.append_assoc, List.nil_append]
theorem own_put (hw : ∀ x, (c x).length = w) {l : List α} {j : Int} {x : α} (h : idx l j = some x) (y : α) : splice (enc c l) (j.toNat * w) (c y) = enc c (l.set j.toNat y) := by
  obtain ⟨_, h1, h2⟩ := idx_some h
  have := enc_splice hw (k := 0) (vs := c y) (y := y) h2 (by rw [hw]; omega) (by rw [splice_eq _ _ _ (by rw [hw, hw]; omega)]; simp [hw])
  simpa using this
end
theorem vp_one {α : Type} {c : α → List AV} (hw : ∀ x, (c x).length = 1) {l : List α} {j : Int} {x : α} (h : idx l j = some x) : apart_ ((enc c l).drop j.toNat) 0 none = (c x)[0]? := by
  have := vp_cell0 hw h (by decide)
  rwa [Nat.mul_one] at this
theorem own_one {α : Type} {c : α → List AV} (hw : ∀ x, (c x).length = 1) {l : List α} {j : Int} {x : α} (h : idx l j = some x) : apart_ (enc c l) j.toNat none = (c x)[0]? := by
  have := own_cell0 hw h (by decide)
  rwa [Nat.mul_one] at this
theorem put_one {α : Type} {c : α → List AV} (hw : ∀ x, (c x).length = 1) {l : List α} {j : Int} {x : α} (h : idx l j = some x) (y : α) : splice (enc c l) j.toNat (c y) = enc c (l.set j.toNat y) := by
  have := own_put hw h y
  rwa [Nat.mul_one] at this
theorem set_inb {α : Type} {l : List α} {j : Int} {x y : α} {i : Nat} (h : idx (l.set i y) j = some x) : inb j l.length = true := by
  have := idx_inb h
  rwa [List.length_set] at this
theorem set_out {α : Type} {l : List α} {j : Int} {y : α} {i : Nat} (h : idx (l.set i y) j = none) : inb j l.length = false := by
  have := idx_out h
  rwa [List.length_set] at this
theorem flat_some {α : Type} {x : α} : (some x).isSome = true := rfl
end Go.Proofs.YtogkkamlmklpkaaDoor.Ab
