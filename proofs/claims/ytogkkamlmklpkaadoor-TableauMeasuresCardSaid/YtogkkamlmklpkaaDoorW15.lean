/- Plain law: what is projected is surely that then, and the group keeps what commutes with it: the law of Measures. No condition: lemmas only. -/
import Derived.Test.YtogkkamlmklpkaaDoorW14
set_option maxRecDepth 100000
set_option linter.unusedVariables false
set_option linter.unusedSimpArgs false
namespace Go.Proofs.YtogkkamlmklpkaaDoor.Ab
open Go
theorem rowT_tw (s z v : Pl) : rowT s z v = tw s (part v z) v := rfl
theorem part_comm (p q : Pl) : part p q = part q p := by rw [part_vec, part_vec, omv_comm]
theorem part_tw (s v z : Pl) (b : Bool) : part (tw s b v) z = (part v z ^^ (b && part s z)) := by
  unfold tw
  cases b with
  | false => simp
  | true => rw [cond_true, part_comm, part_mul, part_comm z v, part_comm z s, Bool.true_and]
theorem cprod_single {s : Nat → Pl} {a : Pl} {p : Nat} : ∀ k, cprod s (fun j => decide (j = p)) k a = if p < k then mulP a (s p) else a
  | 0 => by rw [if_neg (by omega)]; rfl
  | k + 1 => by
    rw [cprod_succ, cprod_single k]
    by_cases e : k = p
    · subst e; rw [if_neg (by omega), if_pos (by omega), decide_eq_true rfl]; rfl
    · rw [decide_eq_false e]
      by_cases q : p < k
      · rw [if_pos q, if_pos (by omega)]; rfl
      · rw [if_neg q, if_neg (by omega)]; rfl
theorem firstPart_no {S : List Pl} {z : Pl} {m i : Nat} (h : ∀ j (hj : j < S.length), part S[j] z = false) : firstPart S z m i = none := by
  cases e : firstPart S z m i with
  | none => rfl
  | some j =>
    obtain ⟨_, _, hj, hp⟩ := firstPart_some e
    rw [h j hj] at hp; cases hp
/-- The rows after a string was put in. -/
theorem put_get {N : Int} {S D : List Pl} {n : Nat} (t : Tab N S D n) (m : Pl) {p : Nat} (hp : p < n) : ∀ i, i < n →
    sAt (putS S m n p) i = (if i = p then m else tw (sAt S p) (part (sAt S i) m) (sAt S i)) ∧ sAt (putD S D m n p) i = (if i = p then sAt S p else tw (sAt S p) (part (sAt D i) m) (sAt D i)) := by
  intro i hi
  have hS := t.ls
  have hD := t.ld
  have p1 : p < S.length := by omega
  rw [sAt_lt p1, sAt_lt (by omega : i < S.length), sAt_lt (by omega : i < D.length)]
  unfold sAt putS putD
  rw [List.getElem?_eq_getElem p1]
  simp only []
  by_cases e : i = p
  · subst e
    rw [if_pos rfl, if_pos rfl, List.getElem?_set_self (by rw [turnFrom_len]; omega), List.getElem?_set_self (by rw [turnFrom_len]; omega)]
    exact ⟨rfl, rfl⟩
  · rw [if_neg e, if_neg e, List.getElem?_set_ne (Ne.symm e), List.getElem?_set_ne (Ne.symm e), turnFrom_row hS hi e, turnFrom_row hD hi e]
    exact ⟨rfl, rfl⟩
theorem tab_com {N : Int} {S D : List Pl} {n : Nat} (t : Tab N S D n) {p : Nat} (hp : p < n) : ∀ j, j < n → (sAt S p).N = (sAt S j).N ∧ part (sAt S p) (sAt S j) = false := by
  intro j hj
  have hS := t.ls
  rw [sAt_lt (by omega : p < S.length), sAt_lt (by omega : j < S.length)]
  exact ⟨(one_iff.1 (t.oS p (by omega))).1.trans (one_iff.1 (t.oS j (by omega))).1.symm, t.ss p j (by omega) (by omega)⟩
/-- The product of what commutes with the string put in. -/
theorem put_walk {N : Int} {S D : List Pl} {n : Nat} (t : Tab N S D n) {m z : Pl} (hz : one N z = true) {p : Nat} (hp : p < n) (hm : part (sAt S p) m = true) (hf : firstPart S z n 0 = none) (hc : part z m = false) :
    walkS (putS S m n p) (putD S D m n p) z n 0 (unit N) = walkS S D z n 0 (unit N) := by
  have hS := t.ls
  have hD := t.ld
  have p1 : p < S.length := by omega
  rw [walk_cprod (by rw [putS_len]; omega) (by rw [putD_len]; omega)]
  have w0 := walk_cprod (S := S) (D := D) (z := z) (n := n) (by omega) (by omega) (unit N)
  have com := tab_com t hp
  have ev : (sAt S p).Ph % 2 = 0 := by rw [sAt_lt p1]; exact (one_iff.1 (t.oS p p1)).2.2
  have u0 : 0 ≤ (unit N).Ph ∧ (unit N).Ph ≤ 3 := by unfold unit; simp
  have sz : ∀ j, j < n → part (sAt S j) z = false := fun j hj => by
    rw [sAt_lt (by omega : j < S.length)]
    exact firstPart_none (by omega) hf j (by omega) (by omega) (by omega)
  -- which strings are named
  have hcz : ∀ j, j < n → part (sAt (putD S D m n p) j) z = (part (sAt D j) z && !decide (j = p)) := fun j hj => by
    rw [(put_get t m hp j hj).2]
    by_cases e : j = p
    · rw [if_pos e, decide_eq_true e, sz p hp]; simp
    · rw [if_neg e, part_tw, sz p hp, decide_eq_false e]; simp
  have e1 : cprod (sAt (putS S m n p)) (fun j => part (sAt (putD S D m n p) j) z) n (unit N) = cprod (fun j => tw (sAt S p) (part (sAt S j) m) (sAt S j)) (fun j => part (sAt D j) z && !decide (j = p)) n (unit N) := by
    refine cprod_congr n fun j hj => ⟨hcz j hj, fun h => ?_⟩
    rw [hcz j hj] at h
    have hne : j ≠ p := by
      rintro rfl
      rw [decide_eq_true rfl] at h
      simp at h
    rw [(put_get t m hp j hj).1, if_neg hne]
  have e2 := cprod_out (s := sAt S) (c := fun j => part (sAt D j) z) (p := p) u0 n com
  rw [e1, cprod_turn ev u0 n com, w0, e2]
  congr 1
  have h1 : part m (cprod (sAt S) (fun j => part (sAt D j) z) n (unit N)) = false := by
    rw [← w0]
    obtain ⟨g1, g2⟩ := (first_walk t hz).1 hf
    have : part m (walkS S D z n 0 (unit N)) = part m z := by unfold part; rw [g1, g2]
    rw [this, part_comm]; exact hc
  rw [part_cprod, part_unit, Bool.xor_false, xs_out n (p := p), part_comm m, hm, Bool.and_true] at h1
  have h2 : xs (fun j => part (sAt D j) z && !decide (j = p)) (fun j => part (sAt S j) m) n = xs (fun j => part (sAt D j) z && !decide (j = p)) (fun j => part m (sAt S j)) n := xs_congr n fun j _ => by simp only [part_comm m]
  rw [h2]
  revert h1
  generalize xs (fun j => part (sAt D j) z && !decide (j = p)) (fun j => part m (sAt S j)) n = A
  generalize (decide (p < n) && part (sAt D p) z) = B
  cases A <;> cases B <;> simp
/-- The string put in is told for sure. -/
theorem put_self {N : Int} {S D : List Pl} {n : Nat} (t : Tab N S D n) {m z : Pl} (hm1 : m.N = N) (hm2 : 0 ≤ m.Ph ∧ m.Ph ≤ 3) (he : ∀ s, part s z = part s m) {p : Nat} (hp : p < n) (hm : part (sAt S p) m = true) :
    walkS (putS S m n p) (putD S D m n p) z n 0 (unit N) = m := by
  have hS := t.ls
  have hD := t.ld
  rw [walk_cprod (by rw [putS_len]; omega) (by rw [putD_len]; omega)]
  have e1 : cprod (sAt (putS S m n p)) (fun j => part (sAt (putD S D m n p) j) z) n (unit N) = cprod (sAt (putS S m n p)) (fun j => decide (j = p)) n (unit N) := by
    refine cprod_congr n fun j hj => ⟨?_, fun _ => rfl⟩
    rw [(put_get t m hp j hj).2]
    by_cases e : j = p
    · rw [if_pos e, decide_eq_true e, he]; exact hm
    · rw [if_neg e, part_tw, he, he, hm, decide_eq_false e]; simp
  rw [e1, cprod_single, if_pos hp, (put_get t m hp p hp).1, if_pos rfl, ← hm1]
  exact mulP_unit_l hm2.1 hm2.2
/-- Behind a projection. -/
theorem after {N : Int} {S D : List Pl} {n : Nat} (t : Tab N S D n) {q : Nat} (hq : q < n) {v : Int} (hv : v = 0 ∨ v = 1) (ho : ¬ odds N S D q n = 1 - v) :
    ∃ S' D', proj N S D q n v = (N, S', D', 0) ∧ Tab N S' D' n ∧ odds N S' D' q n = v ∧ ∀ z, one N z = true → memb N S D z n ≠ 0 → part z (zq N q 0) = false → memb N S' D' z n = memb N S D z n := by
  have hle := t.le
  have hS := t.ls
  unfold proj
  rw [if_neg ho]
  rcases odds_cases (N := N) (S := S) (D := D) (q := q) (n := n) with ⟨o1, p, o2⟩ | ⟨o1, o2⟩
  · rw [o2]
    obtain ⟨_, hp, hp1, hp2⟩ := firstPart_some o2
    rw [Nat.zero_add] at hp
    have hm : part (sAt S p) (zq N q (2 * v)) = true := by rw [sAt_lt hp1]; exact hp2
    have t' := tab_put t (z := zq N q (2 * v)) (zq_one t.eN hle hq (by omega)) hp hp2
    have m0 : (zq N q (2 * v)).Ph = 2 * v := rfl
    have ps := put_self t (m := zq N q (2 * v)) (z := zq N q 0) rfl (by rw [m0]; omega) (fun _ => rfl) hp hm
    have fn : firstPart (putS S (zq N q (2 * v)) n p) (zq N q 0) n 0 = none := firstPart_no fun j hj => by
      have e : (putS S (zq N q (2 * v)) n p)[p]'(by rw [putS_len]; omega) = zq N q (2 * v) := by
        have := (put_get t (zq N q (2 * v)) hp p hp).1
        rw [if_pos rfl, sAt_lt (by rw [putS_len]; omega)] at this
        exact this
      have := t'.ss j p hj (by rw [putS_len]; omega)
      rw [e] at this
      exact this
    refine ⟨_, _, rfl, t', ?_, fun z hz h0 hc => ?_⟩
    · unfold odds
      rw [fn]
      simp only []
      rw [ps, m0]
      rcases hv with rfl | rfl <;> rfl
    · unfold memb at h0 ⊢
      cases e : firstPart S z n 0 with
      | some j => rw [e] at h0; simp at h0
      | none =>
        have sz := fun j hj => firstPart_none (S := S) (z := z) (m := n) (i := 0) (by omega) e j hj (by omega) (by omega)
        have e' : firstPart (putS S (zq N q (2 * v)) n p) z n 0 = none := firstPart_no fun j hj => by
          have hj' : j < n := by rw [putS_len] at hj; omega
          have := (put_get t (zq N q (2 * v)) hp j hj').1
          rw [sAt_lt hj] at this
          rw [this]
          by_cases ej : j = p
          · rw [if_pos ej, part_comm]; exact hc
          · rw [if_neg ej, part_tw, sAt_lt hp1, sAt_lt (by omega : j < S.length), sz p hp1, sz j (by omega)]; simp
        rw [e', put_walk t hz hp hm e hc]
  · rw [o2]
    refine ⟨S, D, rfl, t, by omega, fun z _ _ _ => rfl⟩
/-- Two strings whose products are alike do not part. -/
theorem same_mul {p q : Pl} (h : mulP p q = mulP q p) : part p q = false := by
  have ho := ps_odd 64 p.X.toNat p.Z.toNat q.X.toNat q.Z.toNat p.X.isLt p.Z.isLt q.X.isLt q.Z.isLt
  have ht := ps_turn 64 p.X.toNat p.Z.toNat q.X.toNat q.Z.toNat
  have h4 : (mulP p q).Ph = (mulP q p).Ph := by rw [h]
  unfold mulP at h4
  simp only at h4
  unfold part om
  rw [decide_eq_false_iff_not]
  generalize ps 64 p.X.toNat p.Z.toNat q.X.toNat q.Z.toNat = a at *
  generalize ps 64 q.X.toNat q.Z.toNat p.X.toNat p.Z.toNat = b at *
  generalize popN ((p.X.toNat &&& q.Z.toNat) ^^^ (p.Z.toNat &&& q.X.toNat)) = c at *
  omega
theorem P_Commute (F : Nat) (hF : 65 ≤ F) (p q : Pl) : ∃ r e, Ppauli_Commute F p.N p.X p.Z p.Ph q.N q.X q.Z q.Ph = some (r, e) ∧ (r = true → part p q = false) ∧ (p.ok = true → q.ok = true → p.N = q.N → e = 0) := by
  unfold Ppauli_Commute
  rw [P_pair]
  by_cases hp : p.ok = true
  · by_cases hq : q.ok = true
    · by_cases hn : p.N = q.N
      · rw [hp, hq, decide_eq_true hn]
        simp only [Bool.and_self, cond_true, P_times F hF p q hp hq, P_times F hF q p hq hp]
        refine ⟨_, _, rfl, fun h => ?_, fun _ _ _ => rfl⟩
        simp only [Bool.and_eq_true, decide_eq_true_eq] at h
        obtain ⟨h1, h2, h3, h4⟩ := h
        refine same_mul ?_
        cases e1 : mulP p q
        cases e2 : mulP q p
        rw [e1, e2] at h1 h2 h3 h4
        simp only at h1 h2 h3 h4
        rw [h1, h2, h3, h4]
      · refine ⟨false, 130, ?_, fun h => (by cases h), fun _ _ h => absurd h hn⟩
        rw [decide_eq_false hn]; simp
    · refine ⟨false, 130, ?_, fun h => (by cases h), fun _ h => absurd h hq⟩
      rw [Bool.not_eq_true] at hq
      rw [hq]; simp
  · refine ⟨false, 130, ?_, fun h => (by cases h), fun h => absurd h hp⟩
    rw [Bool.not_eq_true] at hp
    rw [hp]; simp
/-- The law of Measures. -/
theorem law_tableauMeasures (F : Nat) (hF : 66 ≤ F) (N : Int) (S D : List Pl) (q v : Int) (z : Pl) (_ : S.length * 32 ≤ 140737488355328) (_ : D.length * 32 ≤ 140737488355328) (_ : 66 + S.length + D.length ≤ F) : Plaw14_TableauMeasures F N S D q v z.N z.X z.Z z.Ph = some true := by
  unfold Plaw14_TableauMeasures
  rw [P_Odds F hF, P_Project F hF]
  unfold oddsA projA
  cases hc : chk N S D with
  | false => rfl
  | true =>
    obtain ⟨n, t⟩ := chk_tab hc
    have hN := t.eN
    have hle := t.le
    have hs := t.ls
    have hd := t.ld
    simp only [if_true]
    by_cases h1 : q < 0
    · simp only [if_pos h1, Plaw14_num]; rfl
    · by_cases h2 : q ≥ N
      · simp only [if_neg h1, if_pos h2, Plaw14_num]; rfl
      · simp only [if_neg h1, if_neg h2, Plaw14_num]
        obtain ⟨k, rfl⟩ : ∃ k : Nat, q = (k : Int) := ⟨q.toNat, by omega⟩
        rw [Int.toNat_natCast, hs]
        by_cases hv : v = 0 ∨ v = 1
        · rw [if_pos hv, wrap_id (n := 1 - v) ⟨by omega, by omega⟩]
          by_cases ho : odds N S D k n = 1 - v
          · unfold proj
            rw [if_pos ho]
            simp only []
            rw [if_neg (by omega : ¬ v < 0), if_neg (by omega : ¬ v > 1), if_pos ho]
            rfl
          · obtain ⟨S', D', e1, t', o', mb⟩ := after t (by omega : k < n) hv ho
            have hs' := t'.ls
            have hd' := t'.ld
            have hc' := tab_chk t'
            have o2 : ∀ w, (w = 0 ∨ w = 1) → projA N S' D' (k : Int) w = proj N S' D' k n w := fun w hw => by
              unfold projA
              rw [if_pos hc', if_neg h1, if_neg h2, if_pos hw, Int.toNat_natCast, hs']
            have oo : oddsA N S' D' (k : Int) = (v, 0) := by
              unfold oddsA
              rw [if_pos hc', if_neg h1, if_neg h2, Int.toNat_natCast, hs', o']
            have p1 : proj N S' D' k n v = (N, S', D', 0) := by
              unfold proj
              rw [if_neg (by omega)]
              rcases odds_cases (N := N) (S := S') (D := D') (q := k) (n := n) with ⟨a, _⟩ | ⟨_, b⟩
              · omega
              · rw [b]
            have p2 : proj N S' D' k n (1 - v) = (0, [], [], 142) := by
              unfold proj
              rw [if_pos (by omega)]
            rw [e1]
            simp only []
            rw [if_neg (by omega : ¬ v < 0), if_neg (by omega : ¬ v > 1), if_neg ho]
            simp only [P_Odds F hF, P_Project F hF, o2 v hv, o2 (1 - v) (by omega), oo, p1, p2, R_Alike F N S' D' (by omega) (by omega) (by omega) (by omega), P_Check F hF, hc', if_true, cond_true]
            rw [P_Member F hF hc t z, P_Member F hF hc' t' z]
            have bq : (BitVec.ofInt 64 (k : Int)).toNat = k := by rw [BitVec.ofInt_natCast, BitVec.toNat_ofNat, Nat.mod_eq_of_lt (by omega)]
            obtain ⟨r, e, c1, c2, c3⟩ := P_Commute F (by omega) z (zq N k 0)
            rw [bq, show Ppauli_Commute F z.N z.X z.Z z.Ph N 0#64 (1#64 <<< k) 0 = some (r, e) from c1]
            by_cases hz : one N z = true
            · obtain ⟨z1, z2, z3⟩ := one_iff.1 hz
              have q2 := (one_iff.1 (zq_one (q := k) (v := 0) hN hle (by omega) (.inl rfl))).2.1
              obtain rfl := c3 z2 q2 z1
              simp only [if_pos hz, if_true]
              by_cases h0 : memb N S D z n = 0
              · rw [if_pos h0]
              · rw [if_neg h0]
                cases r with
                | false => rfl
                | true =>
                  have := mb z hz h0 (c2 rfl)
                  rw [cond_true, this, if_pos rfl]
            · simp only [if_neg hz]; rfl
        · rw [if_neg hv]
          by_cases g1 : v < 0
          · simp only [if_pos g1]; rfl
          · have : v > 1 := by omega
            simp only [if_neg g1, if_pos this]; rfl
end Go.Proofs.YtogkkamlmklpkaaDoor.Ab
