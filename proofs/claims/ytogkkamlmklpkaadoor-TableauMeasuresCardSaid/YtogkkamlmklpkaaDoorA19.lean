/- Calls by contents: blocks that are handed in or out give way to what they hold; what such a call's word is worth. No condition: definitions and lemmas only. -/
import Derived.Test.YtogkkamlmklpkaaDoorA18
set_option linter.unusedVariables false
set_option linter.unusedSimpArgs false
namespace Go.Proofs.YtogkkamlmklpkaaDoor.Ab
open Go

noncomputable section
def frzs (g : AV → Option AV) : List AV → Option (List AV)
  | [] => some []
  | x :: xs => match g x with
    | some y => match frzs g xs with
      | some ys => some (y :: ys)
      | none => none
    | none => none
/-- Contents in place of blocks (from 'base' on, one's own); 'okv': frozen values may be among them. -/
def frz (okv : Bool) (base : Nat) (h : AHeap) : Nat → AV → Option AV
  | 0, _ => none
  | _ + 1, .sl none _ _ => some (.vs 0 .unk [])
  | f + 1, .sl (some (id, off)) len _ => match hget h id with
    | some x => bif x.own && Nat.ble base id then match frzs (frz okv base h f) ((x.cells.drop off).take (len * x.esz)) with
        | some cs => some (.vs len .unk cs)
        | none => none
      else none
    | none => bif Nat.beq len 0 then some (.vs 0 .unk []) else none
  | f + 1, .p (some (id, off)) => match hget h id with
    | some x => bif x.own && Nat.ble base id then match frzs (frz okv base h f) (x.cells.drop off) with
        | some cs => some (.vp cs)
        | none => none
      else none
    | none => none
  | _ + 1, .vs len _ cs => bif okv then some (.vs len .unk cs) else bif Nat.beq len 0 then some (.vs 0 .unk []) else none
  | _ + 1, .vp cs => bif okv then some (.vp cs) else none
  | f + 1, .agg cs => match frzs (frz okv base h f) cs with
    | some cs' => some (.agg cs')
    | none => none
  | f + 1, .tup cs => match frzs (frz okv base h f) cs with
    | some cs' => some (.tup cs')
    | none => none
  | f + 1, .fn g x y => match frzs (frz okv base h f) x with
    | some x' => match frzs (frz okv base h f) y with
      | some y' => some (.fn g x' y')
      | none => none
    | none => none
  | _ + 1, .lp _ _ => none
  | _ + 1, v => some v
/-- The variables' blocks, to be read. -/
def hglb (h : AHeap) : Nat → AHeap
  | 0 => []
  | k + 1 => match hget h k with
    | some b => bif AV.nors b.cells then (k, ⟨false, false, b.ty, b.esz, b.cells⟩) :: hglb h k else hglb h k
    | none => hglb h k
/-- The blocks that a result names, with new numbers, the blocks that they name frozen. -/
def hown (h : AHeap) (ng nb : Nat) (l : List Nat) : Nat → List Nat → Option AHeap
  | _, [] => some []
  | j, id :: r => match newId ng nb l id with
    | none => none
    | some j' => bif Nat.beq j' j && Nat.ble ng id then match hget h id with
        | none => hown h ng nb l (j + 1) r
        | some x => bif x.own then match frzs (frz true ng (hhide l h) 8) x.cells with
            | some cs => match hown h ng nb l (j + 1) r with
              | some h' => some ((j, ⟨true, x.opn, x.ty, x.esz, cs⟩) :: h')
              | none => none
            | none => none
          else none
      else none
mutual
/-- Nil is a frozen slice of nothing. -/
def AV.nn : AV → AV
  | .sl none _ _ => .vs 0 .unk []
  | .agg cs => .agg (AV.nns cs)
  | .tup cs => .tup (AV.nns cs)
  | v => v
def AV.nns : List AV → List AV
  | [] => []
  | x :: xs => AV.nn x :: AV.nns xs
end
def ownIds (ng : Nat) (v : AV) : List Nat := (AV.ids ng v []).reverse
/-- A function's call: 'fl = n + 1': the result's blocks are frozen; 'fl = n': they are the caller's own; else the caller's memory is at hand. -/
def evP (ng : Nat) (O : Orc) (fs : Nat → Option AFn) (F : Nat) : Orc := fun g args h n fl => match fs g with
  | none => O g args h n fl
  | some f =>
    bif Nat.beq fl (n + 1) || Nat.beq fl n then
      match frzs (frz true 0 (bif AV.nors args then [] else h) 8) args with
      | none => none
      | some args' => match evFn O ng F f args' (hglb h ng) ng with
        | none => none
        | some (v, h', _) =>
          bif Nat.beq fl (n + 1) then
            match frz (AV.nors args) ng h' 8 v with
            | some v' => some (v', none)
            | none => none
          else bif AV.nors args then
            match AV.ren ng n (ownIds ng v) v with
            | some v' => match hown h' ng n (ownIds ng v) n (ownIds ng v) with
              | some news => some (AV.nn v', some (news, n + (ownIds ng v).length))
              | none => none
            | none => none
          else none
    else bif f.body.nog then match evFn O fl F f args h n with
      | some (v, h', n') => some (v, some (h', n'))
      | none => none
    else none
def evV (ng : Nat) (O : Orc) (fs : Nat → Option AFn) (F : Nat) : Nat → Orc
  | 0 => O
  | d + 1 => evP ng (evV ng O fs F d) fs F
end

/-! ### What is frozen -/
/-- The cells of one's own blocks are frozen in another placement. -/
def Fzd (base : Nat) (h : AHeap) (θ θ' : Th) (w : World) : Prop := ∀ id x b o c, hget h id = some x → x.own = true → base ≤ id → θ id = some (b, o, c) → ∀ i u, w.cell? ⟨b, i, none⟩ = some u → θ'.fz b i = some u

theorem frzs_rel {θ θ' : Th} {g : AV → Option AV} (h : ∀ a a' v, g a = some a' → VRel θ a v → VRel θ' a' v ∧ a'.nor = true) : ∀ {l l' : List AV} {vs : List Value}, frzs g l = some l' → VRels θ l vs → VRels θ' l' vs ∧ AV.nors l' = true
  | [], _, vs, e, r => by simp only [frzs, Option.some.injEq] at e; subst e; exact ⟨r, rfl⟩
  | x :: xs, l', vs, e, r => by
    simp only [frzs] at e
    split at e
    · rename_i y hy
      split at e
      · rename_i ys hys
        simp only [Option.some.injEq] at e; subst e
        simp only [VRels] at r ⊢
        obtain ⟨u, us, rfl, r1, r2⟩ := r
        obtain ⟨a1, a2⟩ := h _ _ _ hy r1
        obtain ⟨b1, b2⟩ := frzs_rel h hys r2
        exact ⟨⟨u, us, rfl, a1, b1⟩, by simp only [AV.nors, a2, b2, Bool.and_self]⟩
      · cases e
    · cases e
theorem frzs_len {g : AV → Option AV} : ∀ {l l' : List AV}, frzs g l = some l' → l'.length = l.length
  | [], _, e => by simp only [frzs, Option.some.injEq] at e; subst e; rfl
  | x :: xs, l', e => by
    simp only [frzs] at e
    split at e
    · split at e
      · rename_i ys hys
        simp only [Option.some.injEq] at e; subst e
        simp [frzs_len hys]
      · cases e
    · cases e

theorem frz_rel {P : Program} {okv : Bool} {base : Nat} {h : AHeap} {θ θ' : Th} {w : World} (hp : ∀ id x, hget h id = some x → ∃ b o c, θ id = some (b, o, c) ∧ b < w.heap.size ∧ BRel P θ x b o c w) (hz : Fzd base h θ θ' w) (hv : okv = true → Th.fle θ θ') :
    ∀ (f : Nat) (a a' : AV) (v : Value), frz okv base h f a = some a' → VRel θ a v → VRel θ' a' v ∧ a'.nor = true := by
  intro f
  induction f with
  | zero => intro a a' v e; simp [frz] at e
  | succ f ih =>
    intro a a' v e r
    -- cells of a block
    have blk : ∀ {id x b o c}, hget h id = some x → (x.own && Nat.ble base id) = true → θ id = some (b, o, c) → o = 0 ∧ ∃ arr : Array Value, x.cells.length ≤ arr.size ∧ VRels θ x.cells (arr.toList.take x.cells.length) ∧ ∀ i u, arr.toList[i]? = some u → θ'.fz b i = some u := by
      intro id x b o c h1 h2 h3
      simp only [Bool.and_eq_true] at h2
      obtain ⟨b', o', c', g1, g2, g3⟩ := hp id x h1
      rw [h3] at g1; cases g1
      unfold BRel at g3; rw [if_pos h2.1] at g3
      obtain ⟨rfl, arr, z1, z2, z3, z4⟩ := g3
      refine ⟨rfl, arr, z2, z3, fun i u hu => hz id x b 0 c h1 h2.1 (Nat.le_of_ble_eq_true h2.2) h3 i u ?_⟩
      simp only [World.cell?, z1]
      simpa using hu
    have nilvs : ∀ {u : Value}, (∃ q c, u = .slice q 0 c ∧ (q = none → c = 0) ∧ (∀ p, q = some p → ∃ b o, p = ⟨b, o, none⟩)) → VRel θ' (.vs 0 .unk []) u := by
      intro u ⟨q, c, hu, h0, h1⟩
      simp only [VRel]
      cases q with
      | none => exact .inr ⟨by rw [hu, h0 rfl], trivial, trivial, trivial⟩
      | some p =>
        obtain ⟨b, o, rfl⟩ := h1 p rfl
        exact .inl ⟨b, o, c, [], hu, Nat.zero_le _, trivial, fun i u e => by simp at e, rfl, by simp [VRels]⟩
    cases a with
    | b x => simp only [frz, Option.some.injEq] at e; subst e; exact ⟨r, rfl⟩
    | i k x => simp only [frz, Option.some.injEq] at e; subst e; exact ⟨r, rfl⟩
    | f k x => simp only [frz, Option.some.injEq] at e; subst e; exact ⟨r, rfl⟩
    | c k x y => simp only [frz, Option.some.injEq] at e; subst e; exact ⟨r, rfl⟩
    | s x => simp only [frz, Option.some.injEq] at e; subst e; exact ⟨r, rfl⟩
    | nilfn => simp only [frz, Option.some.injEq] at e; subst e; exact ⟨r, rfl⟩
    | nilif => simp only [frz, Option.some.injEq] at e; subst e; exact ⟨r, rfl⟩
    | lp _ _ => simp [frz] at e
    | p q =>
      cases q with
      | none => simp only [frz, Option.some.injEq] at e; subst e; exact ⟨r, rfl⟩
      | some q =>
        obtain ⟨id, off⟩ := q
        simp only [frz] at e
        split at e
        · rename_i x hx
          cases ho : (x.own && Nat.ble base id) with
          | false => rw [ho] at e; cases e
          | true =>
            rw [ho, cond_true] at e
            split at e
            · rename_i cs hcs
              simp only [Option.some.injEq] at e; subst e
              simp only [VRel] at r
              obtain ⟨b, o, C, e1, rfl⟩ := r
              obtain ⟨rfl, arr, z2, z3, z4⟩ := blk hx ho e1
              obtain ⟨y1, y2⟩ := frzs_rel ih hcs (z3.drop off)
              refine ⟨?_, by simp only [AV.nor]; exact y2⟩
              simp only [VRel]
              refine ⟨b, 0 + off, _, rfl, fun i u hu => ?_, y2, y1⟩
              rw [List.getElem?_drop, List.getElem?_take] at hu
              split at hu
              · rw [Nat.zero_add]; exact z4 _ _ hu
              · cases hu
            · cases e
        · cases e
    | sl q len cap =>
      cases q with
      | none =>
        simp only [frz, Option.some.injEq] at e; subst e
        simp only [VRel] at r
        exact ⟨nilvs ⟨none, 0, by rw [r.2.2], (fun _ => rfl), (fun p z => by cases z)⟩, rfl⟩
      | some q =>
        obtain ⟨id, off⟩ := q
        simp only [frz] at e
        simp only [VRel] at r
        obtain ⟨b, o, C, cap', e1, e2, e3, _⟩ := r
        split at e
        · rename_i x hx
          cases ho : (x.own && Nat.ble base id) with
          | false => rw [ho] at e; cases e
          | true =>
            rw [ho, cond_true] at e
            split at e
            · rename_i cs hcs
              simp only [Option.some.injEq] at e; subst e
              obtain ⟨rfl, arr, z2, z3, z4⟩ := blk hx ho e1
              obtain ⟨y1, y2⟩ := frzs_rel ih hcs ((z3.drop off).take (len * x.esz))
              refine ⟨?_, by simp only [AV.nor]; exact y2⟩
              simp only [VRel]
              refine .inl ⟨b, 0 + off, cap', _, e2, e3, trivial, fun i u hu => ?_, y2, y1⟩
              rw [List.getElem?_take] at hu
              split at hu
              · rw [List.getElem?_drop, List.getElem?_take] at hu
                split at hu
                · rw [Nat.zero_add]; exact z4 _ _ hu
                · cases hu
              · cases hu
            · cases e
        · cases hl : Nat.beq len 0 with
          | false => rw [hl] at e; cases e
          | true =>
            rw [hl, cond_true] at e
            simp only [Option.some.injEq] at e; subst e
            have hl := beq_true.1 hl; subst hl
            exact ⟨nilvs ⟨_, _, e2, (fun z => by cases z), (fun p z => by cases z; exact ⟨_, _, rfl⟩)⟩, rfl⟩
    | fn g x y =>
      simp only [frz] at e
      split at e
      · rename_i x' hx
        split at e
        · rename_i y' hy
          simp only [Option.some.injEq] at e; subst e
          simp only [VRel] at r ⊢
          obtain ⟨p, q, rfl, h1, h2⟩ := r
          obtain ⟨a1, a2⟩ := frzs_rel ih hx h1
          obtain ⟨b1, b2⟩ := frzs_rel ih hy h2
          exact ⟨⟨p, q, rfl, a1, b1⟩, by simp only [AV.nor, a2, b2, Bool.and_self]⟩
        · cases e
      · cases e
    | agg cs =>
      simp only [frz] at e
      split at e
      · rename_i cs' hc
        simp only [Option.some.injEq] at e; subst e
        simp only [VRel] at r ⊢
        obtain ⟨x, rfl, h1⟩ := r
        obtain ⟨a1, a2⟩ := frzs_rel ih hc h1
        exact ⟨⟨x, rfl, a1⟩, by simp only [AV.nor, a2]⟩
      · cases e
    | tup cs =>
      simp only [frz] at e
      split at e
      · rename_i cs' hc
        simp only [Option.some.injEq] at e; subst e
        simp only [VRel] at r ⊢
        obtain ⟨x, rfl, h1⟩ := r
        obtain ⟨a1, a2⟩ := frzs_rel ih hc h1
        exact ⟨⟨x, rfl, a1⟩, by simp only [AV.nor, a2]⟩
      · cases e
    | vs len cap cs =>
      simp only [frz] at e
      cases okv with
      | true =>
        simp only [cond_true, Option.some.injEq] at e; subst e
        simp only [VRel] at r ⊢
        rcases r with ⟨b, o, cap', us, rfl, h1, h2, h3, hr, h4⟩ | ⟨r1, r2, r3, r4⟩
        · exact ⟨.inl ⟨b, o, cap', us, rfl, h1, trivial, h3.mono (hv rfl), hr, VRels.nor (hv rfl) cs _ hr h4⟩, by simp only [AV.nor]; exact hr⟩
        · subst r3
          exact ⟨.inr ⟨r1, r2, rfl, trivial⟩, rfl⟩
      | false =>
        simp only [cond_false] at e
        cases hl : Nat.beq len 0 with
        | false => rw [hl] at e; cases e
        | true =>
          rw [hl, cond_true] at e
          simp only [Option.some.injEq] at e; subst e
          have hl := beq_true.1 hl; subst hl
          refine ⟨nilvs ?_, rfl⟩
          simp only [VRel] at r
          rcases r with ⟨b, o, cap', us, rfl, _⟩ | ⟨r1, _⟩
          · exact ⟨_, _, rfl, (fun z => by cases z), (fun p z => by cases z; exact ⟨_, _, rfl⟩)⟩
          · exact ⟨none, 0, r1, (fun _ => rfl), (fun p z => by cases z)⟩
    | vp cs =>
      simp only [frz] at e
      cases okv with
      | true =>
        simp only [cond_true, Option.some.injEq] at e; subst e
        simp only [VRel] at r ⊢
        obtain ⟨b, o, us, rfl, h3, hr, h4⟩ := r
        exact ⟨⟨b, o, us, rfl, h3.mono (hv rfl), hr, VRels.nor (hv rfl) cs _ hr h4⟩, by simp only [AV.nor]; exact hr⟩
      | false => cases e

mutual
theorem nn_rel {θ : Th} : ∀ (a : AV) (v : Value), VRel θ a v → VRel θ (AV.nn a) v
  | .b _, _, r => r
  | .i _ _, _, r => r
  | .f _ _, _, r => r
  | .c _ _ _, _, r => r
  | .s _, _, r => r
  | .p _, _, r => r
  | .lp _ _, _, r => r
  | .sl none _ _, _, r => by
    simp only [VRel] at r
    simp only [AV.nn, VRel]
    exact .inr ⟨r.2.2, trivial, trivial, trivial⟩
  | .sl (some _) _ _, _, r => r
  | .fn _ _ _, _, r => r
  | .nilfn, _, r => r
  | .nilif, _, r => r
  | .agg cs, _, r => by
    simp only [VRel] at r
    simp only [AV.nn, VRel]
    obtain ⟨x, rfl, h1⟩ := r
    exact ⟨x, rfl, nns_rel cs _ h1⟩
  | .tup cs, _, r => by
    simp only [VRel] at r
    simp only [AV.nn, VRel]
    obtain ⟨x, rfl, h1⟩ := r
    exact ⟨x, rfl, nns_rel cs _ h1⟩
  | .vs _ _ _, _, r => r
  | .vp _, _, r => r
theorem nns_rel {θ : Th} : ∀ (a : List AV) (v : List Value), VRels θ a v → VRels θ (AV.nns a) v
  | [], _, r => r
  | x :: xs, _, r => by
    simp only [VRels, AV.nns] at r ⊢
    obtain ⟨u, us, rfl, h1, h2⟩ := r
    exact ⟨u, us, rfl, nn_rel x u h1, nns_rel xs us h2⟩
end
theorem hglb_get {h : AHeap} {id : Nat} {x : ABlk} : ∀ {k : Nat}, hget (hglb h k) id = some x → id < k ∧ ∃ y, hget h id = some y ∧ AV.nors y.cells = true ∧ x = ⟨false, false, y.ty, y.esz, y.cells⟩
  | 0, g => by simp [hglb, hget_nil] at g
  | k + 1, g => by
    simp only [hglb] at g
    split at g
    · rename_i b hb
      cases q : AV.nors b.cells with
      | false =>
        rw [q, cond_false] at g
        obtain ⟨a, b⟩ := hglb_get g
        exact ⟨by omega, b⟩
      | true =>
        rw [q, cond_true, hget_cons] at g
        by_cases z : k = id
        · rw [if_pos z] at g; cases g; subst z; exact ⟨by omega, b, hb, q, rfl⟩
        · rw [if_neg z] at g
          obtain ⟨a, b⟩ := hglb_get g
          exact ⟨by omega, b⟩
    · obtain ⟨a, b⟩ := hglb_get g
      exact ⟨by omega, b⟩
theorem hown_get {h : AHeap} {ng nb : Nat} {l : List Nat} {id' : Nat} {x' : ABlk} : ∀ {r : List Nat} {j : Nat} {h' : AHeap}, hown h ng nb l j r = some h' → hget h' id' = some x' →
    j ≤ id' ∧ id' < j + r.length ∧ ∃ id x cs, newId ng nb l id = some id' ∧ ng ≤ id ∧ hget h id = some x ∧ x.own = true ∧ frzs (frz true ng (hhide l h) 8) x.cells = some cs ∧ x' = ⟨true, x.opn, x.ty, x.esz, cs⟩
  | [], j, _, e, g => by simp only [hown, Option.some.injEq] at e; subst e; simp [hget_nil] at g
  | id :: r, j, h', e, g => by
    simp only [hown] at e
    split at e
    · cases e
    · rename_i j' hj
      cases q : (Nat.beq j' j && Nat.ble ng id) with
      | false => rw [q] at e; cases e
      | true =>
        rw [q, cond_true] at e
        simp only [Bool.and_eq_true] at q
        have q1 := beq_true.1 q.1; subst q1
        have q2 := Nat.le_of_ble_eq_true q.2
        split at e
        · obtain ⟨a1, a2, a3⟩ := hown_get e g
          exact ⟨by omega, by simp only [List.length_cons]; omega, a3⟩
        · rename_i x hx
          cases ho : x.own with
          | false => rw [ho] at e; cases e
          | true =>
            rw [ho, cond_true] at e
            split at e
            · rename_i cs hcs
              split at e
              · rename_i h2 hh2
                simp only [Option.some.injEq] at e; subst e
                rw [hget_cons] at g
                by_cases z : j' = id'
                · rw [if_pos z] at g; cases g
                  subst z
                  exact ⟨Nat.le_refl _, by simp, id, x, cs, hj, q2, hx, ho, hcs, rfl⟩
                · rw [if_neg z] at g
                  obtain ⟨a1, a2, a3⟩ := hown_get hh2 g
                  exact ⟨by omega, by simp only [List.length_cons]; omega, a3⟩
              · cases e
            · cases e
end Go.Proofs.YtogkkamlmklpkaaDoor.Ab
