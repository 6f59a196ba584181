/- The word of a call by contents is worth as much as any oracle's. No condition: lemmas only. -/
import Derived.Test.YtogkkamlmklpkaaDoorA19
set_option linter.unusedVariables false
set_option linter.unusedSimpArgs false
namespace Go.Proofs.YtogkkamlmklpkaaDoor.Ab
open Go

section
variable {P : Program} {ng : Nat}

open Classical in
/-- The placement that a call by contents finds. -/
noncomputable def Th.inn (θ : Th) (ng : Nat) (q : Bool) (h : AHeap) (w : World) : Th :=
  ⟨fun id => if id < ng then θ id else none, fun b o => if q = false ∧ (∃ id x o' c, hget h id = some x ∧ x.own = true ∧ θ id = some (b, o', c)) then w.cell? ⟨b, o, none⟩ else θ.fz b o⟩
theorem inn_fle {θ : Th} {q : Bool} {h : AHeap} {w : World} (m : Mem P ng θ h w) : Th.fle θ (θ.inn ng q h w) := fun b o u e => by
  simp only [Th.inn]
  split
  · exact m.fzc b o u e
  · exact e
theorem inn_mem {θ : Th} {q : Bool} {h : AHeap} {w : World} (m : Mem P ng θ h w) : Mem P ng (θ.inn ng q h w) (hglb h ng) w := by
  refine ⟨fun g hg => ?_, ⟨ng, fun id hid => ?_⟩, fun id x e => ?_, fun id id' x x' b o c o' c' e qx => ?_, fun b o u e => ?_, fun id x b o c o' u e qx => ?_⟩
  · simp only [Th.inn, if_pos hg]; exact m.glob g hg
  · simp only [Th.inn, if_neg (show ¬ id < ng by omega)]
  · obtain ⟨h1, y, h2, h3, rfl⟩ := hglb_get e
    obtain ⟨b, o, c, g1, g2, g3⟩ := m.hp id y h2
    refine ⟨b, o, c, by simp only [Th.inn, if_pos h1]; exact g1, g2, ?_⟩
    unfold BRel
    rw [if_neg (by simp)]
    intro i v hv
    obtain ⟨u, u1, u2⟩ := g3.at P hv
    have hnor : ∀ {l : List AV} {i : Nat} {v : AV}, AV.nors l = true → l[i]? = some v → v.nor = true := by
      intro l
      induction l with
      | nil => intro i v _ hv; simp at hv
      | cons x l ih =>
        intro i v hn hv
        simp only [AV.nors, Bool.and_eq_true] at hn
        cases i with
        | zero => simp at hv; subst hv; exact hn.1
        | succ i => simp at hv; exact ih hn.2 hv
    exact ⟨u, u1, VRel.nor (inn_fle m) v u (hnor h3 hv) u2⟩
  · obtain ⟨_, y, _, _, rfl⟩ := hglb_get e
    cases qx
  · simp only [Th.inn] at e
    split at e
    · exact e
    · exact m.fzc b o u e
  · obtain ⟨_, y, _, _, rfl⟩ := hglb_get e
    cases qx
theorem inn_args {θ : Th} {h : AHeap} {w : World} {args args' : List AV} {vs : List Value} (m : Mem P ng θ h w) (e : frzs (frz true 0 (bif AV.nors args then [] else h) 8) args = some args') (r : VRels θ args vs) :
    VRels (θ.inn ng (AV.nors args) h w) args' vs ∧ AV.nors args' = true := by
  cases q : AV.nors args with
  | true =>
    rw [q, cond_true] at e
    exact frzs_rel (frz_rel (P := P) (w := w) (fun id x e => by simp [hget_nil] at e) (fun id x b o c e => by simp [hget_nil] at e) (fun _ => inn_fle m) 8) e r
  | false =>
    rw [q, cond_false] at e
    refine frzs_rel (frz_rel (P := P) (w := w) m.hp (fun id x b o c e1 e2 _ e3 i u hu => ?_) (fun _ => inn_fle m) 8) e r
    simp only [Th.inn]
    rw [if_pos ⟨rfl, id, x, o, c, e1, e2, e3⟩]
    exact hu

/-- What is frozen behind a call. -/
noncomputable def outFz (θ θ' : Th) (ng : Nat) (q : Bool) (l : List Nat) (h' : AHeap) (w' : World) : Nat → Nat → Option Value := by
  classical exact fun b o => if ∃ id x o' c, hget h' id = some x ∧ x.own = true ∧ ng ≤ id ∧ id ∉ l ∧ θ' id = some (b, o', c) then w'.cell? ⟨b, o, none⟩ else if q = true then θ'.fz b o else θ.fz b o

/-- A call by contents has left the caller's memory as it was, and its own blocks are new. -/
theorem out_facts {θ θ' : Th} {q : Bool} {h h' : AHeap} {w w' : World} (m : Mem P ng θ h w) {n' : Nat} (hx : Th.ext (θ.inn ng q h w) θ' ng n') (hc : RepM P (cx w (hglb h ng) ng ng (θ.inn ng q h w) 0) θ' (fun _ => none) (F0 h') w') (l : List Nat) :
    Chg (fun _ => False) w w' ∧ (∀ id x b o c, hget h' id = some x → x.own = true → ng ≤ id → θ' id = some (b, o, c) → w.heap.size ≤ b) ∧
      Th.fle θ ⟨θ.pl, outFz θ θ' ng q l h' w'⟩ ∧ (∀ b o u, outFz θ θ' ng q l h' w' b o = some u → θ.fz b o = some u ∨ (w.heap.size ≤ b ∧ w'.cell? ⟨b, o, none⟩ = some u)) ∧
      (q = true → Th.fle θ' ⟨θ'.pl, outFz θ θ' ng q l h' w'⟩) := by
  have noM : ∀ b, ¬ M0 (hglb h ng) ng (θ.inn ng q h w) b := fun b ⟨id, x, o, c, e, z, _⟩ => by
    obtain ⟨_, y, _, _, rfl⟩ := hglb_get e
    cases z
  have hchg : Chg (fun _ => False) w w' := hc.chg.mono fun b _ z => (noM b z).elim
  have hnew : ∀ id x b o c, hget h' id = some x → x.own = true → ng ≤ id → θ' id = some (b, o, c) → w.heap.size ≤ b := fun id x b o c e1 e2 e3 e4 => by
    rcases hc.ownok id x b o c e1 e2 e3 e4 with z | z
    · exact (noM b z).elim
    · exact z
  have fq : ∀ b o u, θ'.fz b o = some u → q = true → θ.fz b o = some u ∨ w.heap.size ≤ b := fun b o u e eq => by
    rcases hc.fzn b o u e with z | z
    · subst eq
      have z' : (θ.inn ng true h w).fz b o = some u := z
      simp only [Th.inn] at z'
      rw [if_neg (fun q => by cases q.1)] at z'
      exact .inl z'
    · exact .inr z
  refine ⟨hchg, hnew, fun b o u e => ?_, fun b o u e => ?_, fun eq b o u e => ?_⟩
  · simp only [outFz]
    split
    · rename_i hs
      obtain ⟨id, x, o', c, e1, e2, e3, e4, e5⟩ := hs
      have h1 := hnew id x b o' c e1 e2 e3 e5
      have h2 := World.block_lt_of_cell? w _ (m.fzc b o u e)
      simp only at h2; omega
    · split
      · exact hx.fz b o u (inn_fle m b o u e)
      · exact e
  · simp only [outFz] at e
    split at e
    · rename_i hs
      obtain ⟨id, x, o', c, e1, e2, e3, e4, e5⟩ := hs
      exact .inr ⟨hnew id x b o' c e1 e2 e3 e5, e⟩
    · split at e
      · rename_i eq
        rcases fq b o u e eq with z | z
        · exact .inl z
        · exact .inr ⟨z, hc.fzc b o u e⟩
      · exact .inl e
  · simp only [outFz]
    split
    · exact hc.fzc b o u e
    · subst eq; simpa using e

theorem hglb_hb {h : AHeap} : HB (hglb h ng) ng := fun id x e => (hglb_get e).1

theorem OSound.evP {O : Orc} {fs : Nat → Option AFn} {F : Nat} (hP : P.follows .mixedOrders = true) (hO : OSound P ng O) (hfs : ∀ g f, fs g = some f → ∃ fn, P.funcs[g]? = some fn ∧ okFn P ng fn f = true) :
    OSound P ng (Ab.evP ng O fs F) := fun g args h n fl v r he => by
  unfold Ab.evP at he
  split at he
  · exact hO g args h n fl v r he
  · rename_i f hf
    obtain ⟨fn, hg, ok⟩ := hfs g f hf
    have hcall : CallOk P g := by
      simp only [okFn, Bool.and_eq_true] at ok
      obtain ⟨⟨⟨⟨o1, o2⟩, o3⟩, o4⟩, o5⟩ := ok
      split at o5
      · rename_i c hc
        exact ⟨fn, c, hg, hc, by simpa using o1⟩
      · cases o5
    refine ⟨hcall, ?_⟩
    cases hm : (Nat.beq fl (n + 1) || Nat.beq fl n) with
    | false =>
      rw [hm, cond_false] at he
      cases hng : f.body.nog with
      | false => rw [hng] at he; cases he
      | true =>
        rw [hng, cond_true] at he
        split at he
        · rename_i v1 h1 n1 he1
          simp only [Option.some.injEq, Prod.mk.injEq] at he
          obtain ⟨rfl, rfl⟩ := he
          exact fun hb => ⟨evFn_heir hO.heir hng hb he1, fun θ w cargs hm ha hf => evFn_sound hP hO hg ok hng he1 hb hm ha hf⟩
        · cases he
    | true =>
      rw [hm, cond_true] at he
      split at he
      · cases he
      · rename_i args' hargs
        split at he
        · cases he
        · rename_i v1 h' n' he1
          cases hz : Nat.beq fl (n + 1) with
          | true =>
            rw [hz, cond_true] at he
            split at he
            · rename_i v' hv'
              simp only [Option.some.injEq, Prod.mk.injEq] at he
              obtain ⟨rfl, rfl⟩ := he
              refine fun hb => ⟨trivial, fun θ w cargs hm ha _ => ?_⟩
              obtain ⟨a1, a2⟩ := inn_args hm hargs ha
              refine (evFn_sound2 hP hO hg ok he1 hglb_hb (inn_mem hm) a1 (fun id hid => by simp only [Th.inn, if_neg (show ¬ id < ng by omega)])).mono fun e w' hx => ?_
              obtain ⟨_, u, rfl, θ', x1, x2, x3⟩ := hx
              obtain ⟨f1, f2, f3, f4, f5⟩ := out_facts hm x1 x3 []
              refine ⟨u, rfl, _, f3, f4, ?_, f1⟩
              refine (frz_rel (P := P) (θ := θ') (w := w') (θ' := ⟨θ.pl, outFz θ θ' ng (AV.nors args) [] h' w'⟩) x3.hp (fun id x b o c e1 e2 e3 e4 i u hu => ?_) (fun q b o u e => f5 q b o u e) 8 _ _ _ hv' x2).1
              simp only [outFz]
              rw [if_pos ⟨id, x, o, c, e1, e2, e3, by simp, e4⟩]
              exact hu
            · cases he
          | false =>
            rw [hz, cond_false] at he
            rw [hz, Bool.false_or] at hm
            have hm := beq_true.1 hm; subst hm
            cases hq : AV.nors args with
            | false => rw [hq] at he; cases he
            | true =>
              rw [hq, cond_true] at he
              split at he
              · rename_i v' hv'
                split at he
                · rename_i news hnews
                  simp only [Option.some.injEq, Prod.mk.injEq] at he
                  obtain ⟨rfl, rfl⟩ := he
                  generalize hL : ownIds ng v1 = L at hv' hnews
                  refine fun hb => ⟨⟨by simp, fun id x e => ?_⟩, fun θ w cargs hm ha hfree => ?_⟩
                  · obtain ⟨b1, b2, id0, x0, cs, _, _, _, _, _, rfl⟩ := hown_get hnews e
                    exact .inr ⟨b1, by omega, rfl⟩
                  · obtain ⟨a1, a2⟩ := inn_args hm hargs ha
                    rw [hq] at a1
                    refine (evFn_sound2 hP hO hg ok he1 hglb_hb (inn_mem hm) a1 (fun id hid => by simp only [Th.inn, if_neg (show ¬ id < ng by omega)])).mono fun e w' hx => ?_
                    obtain ⟨_, u, rfl, θ', x1, x2, x3⟩ := hx
                    obtain ⟨f1, f2, f3, f4, f5⟩ := out_facts hm x1 x3 L
                    have f5 := f5 rfl
                    -- the placements
                    let θ2 : Th := ⟨fun id => if fl ≤ id ∧ id < fl + L.length then (match L[id - fl]? with | some old => θ' old | none => none) else θ id, outFz θ θ' ng true L h' w'⟩
                    have hfl : Th.fle θ' θ2 := f5
                    have hplace : ∀ id id', newId ng fl L id = some id' → θ2 id' = θ' id := fun id id' hid => by
                      unfold newId at hid
                      cases hb' : Nat.ble ng id with
                      | true =>
                        rw [hb', cond_true] at hid
                        split at hid
                        · rename_i j hj
                          simp only [Option.some.injEq] at hid; subst hid
                          have hjl := posOf_get hj
                          have : j < L.length := (List.getElem?_eq_some_iff.1 hjl).1
                          simp only [θ2, if_pos (show fl ≤ fl + j ∧ fl + j < fl + L.length by omega), Nat.add_sub_cancel_left, hjl]
                        · cases hid
                      | false =>
                        rw [hb', cond_false] at hid
                        simp only [Option.some.injEq] at hid; subst hid
                        have hlt : id < ng := by
                          rcases Nat.lt_or_ge id ng with z | z
                          · exact z
                          · rw [Nat.ble_eq_true_of_le z] at hb'; cases hb'
                        have h1 := hm.glob id hlt
                        have h2 := x3.glob id hlt
                        have : ¬ (fl ≤ id ∧ id < fl + L.length) := fun z => by
                          have := hfree id z.1 z.2
                          rw [h1] at this; cases this
                        simp only [θ2, if_neg this]
                        rw [h2]; exact h1
                    have hfz : Fzd ng (hhide L h') θ' θ2 w' := fun id x b o c e1 e2 e3 e4 i u hu => by
                      rw [hget_hhide] at e1
                      split at e1
                      · cases e1
                      · rename_i hn
                        simp only [θ2, outFz]
                        rw [if_pos ⟨id, x, o, c, e1, e2, e3, hn, e4⟩]
                        exact hu
                    have hpl : ∀ id x, hget (hhide L h') id = some x → ∃ b o c, θ' id = some (b, o, c) ∧ b < w'.heap.size ∧ BRel P θ' x b o c w' := fun id x e => by
                      rw [hget_hhide] at e
                      split at e
                      · cases e
                      · exact x3.hp id x e
                    have blk : ∀ id x b o c, hget news id = some x → θ2 id = some (b, o, c) → ∃ id0 x0 cs, newId ng fl L id0 = some id ∧ ng ≤ id0 ∧ hget h' id0 = some x0 ∧ x0.own = true ∧ frzs (frz true ng (hhide L h') 8) x0.cells = some cs ∧ x = ⟨true, x0.opn, x0.ty, x0.esz, cs⟩ ∧ θ' id0 = some (b, o, c) ∧ w.heap.size ≤ b := by
                      intro id x b o c e t
                      obtain ⟨b1, b2, id0, x0, cs, c1, c2, c3, c4, c5, rfl⟩ := hown_get hnews e
                      rw [hplace _ _ c1] at t
                      exact ⟨id0, x0, cs, c1, c2, c3, c4, c5, rfl, t, f2 id0 x0 b o c c3 c4 c2 t⟩
                    refine ⟨u, rfl, θ2, ⟨fun id => ?_, f3⟩, nn_rel _ _ (ren_rel hplace hfl _ _ _ hv' x2), ⟨fun g hg => ?_, ?_, fun s cs e => by simp [F0] at e, fun s s' cs cs' e => by simp [F0] at e, fun id x e => ?_, fun s cs id x b o c e => by simp [F0] at e, fun id id' x x' b o c o' c' e qx e' hne t t' => ?_,
                      fun id x b o c e qx _ t => ?_, fun id x b o c e t => ?_, f1.mono (fun _ _ z => z.elim), fun b o u e => ?_, fun s cs b o u e => by simp [F0] at e, fun id x b o c o' u e qx t z => ?_, fun b o u e => ?_⟩⟩
                    · by_cases z : fl ≤ id ∧ id < fl + L.length
                      · exact .inr ⟨hfree id z.1 z.2, z.1, z.2⟩
                      · exact .inl (by simp only [θ2, if_neg z])
                    · have : ¬ (fl ≤ g ∧ g < fl + L.length) := fun z => by
                        have := hfree g z.1 z.2
                        rw [hm.glob g hg] at this; cases this
                      simp only [θ2, if_neg this]; exact hm.glob g hg
                    · obtain ⟨B, hB⟩ := hm.fin
                      refine ⟨B + fl + L.length, fun id hid => ?_⟩
                      simp only [θ2, if_neg (show ¬ (fl ≤ id ∧ id < fl + L.length) by omega)]
                      exact hB id (by omega)
                    · simp only [F0] at e
                      obtain ⟨b1, b2, id0, x0, cs, c1, c2, c3, c4, c5, rfl⟩ := hown_get hnews e
                      obtain ⟨b, o, c, g1, g2, g3⟩ := x3.hp id0 x0 c3
                      refine ⟨b, o, c, by rw [hplace _ _ c1]; exact g1, g2, ?_⟩
                      unfold BRel at g3 ⊢
                      rw [if_pos c4] at g3
                      rw [if_pos rfl]
                      obtain ⟨z0, arr, z1, z2, z3, z4⟩ := g3
                      have hlen := frzs_len c5
                      refine ⟨z0, arr, z1, by simp only [hlen]; exact z2, ?_, ?_⟩
                      · simp only [hlen]
                        exact (frzs_rel (frz_rel (P := P) (w := w') hpl hfz (fun _ => hfl) 8) c5 z3).1
                      · simp only [hlen]; exact z4
                    · obtain ⟨i0, x0, cs, c1, c2, c3, c4, _, _, c6, _⟩ := blk id x b o c e t
                      obtain ⟨i1, y0, ds, d1, d2, d3, d4, _, _, d6, _⟩ := blk id' x' b o' c' e' t'
                      refine x3.dhh i0 i1 x0 y0 b o c o' c' c3 c4 d3 (fun z => ?_) c6 d6
                      subst z
                      rw [c1] at d1; cases d1; exact hne rfl
                    · exact .inr (blk id x b o c e t).choose_spec.choose_spec.choose_spec.2.2.2.2.2.2.2
                    · exact .inr (blk id x b o c e t).choose_spec.choose_spec.choose_spec.2.2.2.2.2.2.2
                    · rcases f4 b o u e with z | ⟨_, z⟩
                      · rw [f1.cell (World.block_lt_of_cell? w _ (hm.fzc b o u z)) (fun x => x)]; exact hm.fzc b o u z
                      · exact z
                    · obtain ⟨i0, x0, cs, c1, c2, c3, c4, _, _, c6, c7⟩ := blk id x b o c e t
                      simp only [θ2, outFz] at z
                      split at z
                      · rename_i hs
                        obtain ⟨i1, y0, o1, c', d1, d2, d3, d4, d5⟩ := hs
                        refine x3.dhh i0 i1 x0 y0 b o c o1 c' c3 c4 d1 (fun z => ?_) c6 d5
                        subst z
                        have hmem : i0 ∈ L := by
                          unfold newId at c1
                          rw [Nat.ble_eq_true_of_le c2, cond_true] at c1
                          split at c1
                          · rename_i j hj
                            exact List.mem_of_getElem? (posOf_get hj)
                          · cases c1
                        exact d4 hmem
                      · simp only [if_true] at z
                        exact x3.fzh i0 x0 b o c o' u c3 c4 c6 z
                    · rcases f4 b o u e with z | ⟨z, _⟩
                      · exact .inl z
                      · exact .inr z
                · cases he
              · cases he
theorem OSound.evV {O : Orc} {fs : Nat → Option AFn} {F : Nat} (hP : P.follows .mixedOrders = true) (hO : OSound P ng O) (hfs : ∀ g f, fs g = some f → ∃ fn, P.funcs[g]? = some fn ∧ okFn P ng fn f = true) :
    ∀ d, OSound P ng (Ab.evV ng O fs F d)
  | 0 => hO
  | d + 1 => (OSound.evV hP hO hfs d).evP hP hfs
end
end Go.Proofs.YtogkkamlmklpkaaDoor.Ab
