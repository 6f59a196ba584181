/- From an evaluation of the abstract machine to a row's frame: what is common to all laws of the seat. No condition: lemmas only. -/
import Derived.Test.YtogkkamlmklpkaaDoorC1
import Derived.Test.YtogkkamlmklpkaaDoorRows
import Derived.ProofKit
import Derived.LaidMore
import Derived.OpenShut
import Derived.Stop.Joined
import Derived.Lib.LaidTab
set_option linter.unusedVariables false
set_option maxRecDepth 100000
namespace Go.Proofs.YtogkkamlmklpkaaDoor.Ab
open Go Go.RowKit Go.ChangeShapes Go.WideShapes

/-! ### The functions are those of the program -/
@[reducible] def AllL (P : Program) (ng : Nat) : Nat → List (Option AFn) → Prop
  | _, [] => True
  | k, none :: r => AllL P ng (k + 1) r
  | k, some f :: r => (∃ fn, P.funcs[k]? = some fn ∧ okFn P ng fn f = true) ∧ AllL P ng (k + 1) r
theorem AllL.get {P : Program} {ng : Nat} : ∀ {l : List (Option AFn)} {k g : Nat} {f : AFn}, AllL P ng k l → l[g]? = some (some f) → ∃ fn, P.funcs[k + g]? = some fn ∧ okFn P ng fn f = true
  | [], _, _, _, _, h => by simp at h
  | none :: r, k, 0, f, _, h => by simp at h
  | none :: r, k, g + 1, f, a, h => by
    have := AllL.get (l := r) (k := k + 1) (g := g) a (by simpa using h)
    rwa [show k + 1 + g = k + (g + 1) by omega] at this
  | some f' :: r, k, 0, f, a, h => by
    simp at h; subst h; exact a.1
  | some f' :: r, k, g + 1, f, a, h => by
    have := AllL.get (l := r) (k := k + 1) (g := g) a.2 (by simpa using h)
    rwa [show k + 1 + g = k + (g + 1) by omega] at this
theorem fs_all : AllL Tryd.prog 2 0 fsL :=
  ⟨⟨_, Tryd.func3, ok3⟩, ⟨_, Tryd.func10, ok10⟩, ⟨_, Tryd.func11, ok11⟩, ⟨_, Tryd.func12, ok12⟩, ⟨_, Tryd.func13, ok13⟩, ⟨_, Tryd.func14, ok14⟩, ⟨_, Tryd.func15, ok15⟩, ⟨_, Tryd.func16, ok16⟩, ⟨_, Tryd.func18, ok18⟩, ⟨_, Tryd.func19, ok19⟩, ⟨_, Tryd.func20, ok20⟩, ⟨_, Tryd.func22, ok22⟩, ⟨_, Tryd.func23, ok23⟩, ⟨_, Tryd.func24, ok24⟩, ⟨_, Tryd.func25, ok25⟩, ⟨_, Tryd.func36, ok36⟩, ⟨_, Tryd.func37, ok37⟩, ⟨_, Tryd.func38, ok38⟩, ⟨_, Tryd.func39, ok39⟩, ⟨_, Tryd.func40, ok40⟩, ⟨_, Tryd.func41, ok41⟩, ⟨_, Tryd.func42, ok42⟩, ⟨_, Tryd.func43, ok43⟩, ⟨_, Tryd.func44, ok44⟩, ⟨_, Tryd.func45, ok45⟩, ⟨_, Tryd.func46, ok46⟩, ⟨_, Tryd.func47, ok47⟩, ⟨_, Tryd.func48, ok48⟩, ⟨_, Tryd.func49, ok49⟩, ⟨_, Tryd.func50, ok50⟩, ⟨_, Tryd.func51, ok51⟩, ⟨_, Tryd.func52, ok52⟩, ⟨_, Tryd.func53, ok53⟩, ⟨_, Tryd.func54, ok54⟩, ⟨_, Tryd.func55, ok55⟩, ⟨_, Tryd.func56, ok56⟩, ⟨_, Tryd.func57, ok57⟩, ⟨_, Tryd.func58, ok58⟩, ⟨_, Tryd.func59, ok59⟩, ⟨_, Tryd.func60, ok60⟩, ⟨_, Tryd.func75, ok75⟩, ⟨_, Tryd.func76, ok76⟩, ⟨_, Tryd.func77, ok77⟩, ⟨_, Tryd.func78, ok78⟩, ⟨_, Tryd.func79, ok79⟩, ⟨_, Tryd.func80, ok80⟩, ⟨_, Tryd.func81, ok81⟩, ⟨_, Tryd.func82, ok82⟩, ⟨_, Tryd.func83, ok83⟩, ⟨_, Tryd.func84, ok84⟩, ⟨_, Tryd.func85, ok85⟩, ⟨_, Tryd.func86, ok86⟩, ⟨_, Tryd.func87, ok87⟩, ⟨_, Tryd.func88, ok88⟩, ⟨_, Tryd.func97, ok97⟩, ⟨_, Tryd.func98, ok98⟩, ⟨_, Tryd.func99, ok99⟩, trivial⟩
theorem fs_ok (g : Nat) (f : AFn) (h : fs g = some f) : ∃ fn, Tryd.prog.funcs[g]? = some fn ∧ okFn Tryd.prog 2 fn f = true := by
  unfold fs at h
  cases e : fsL[g]? with
  | none => simp [e] at h
  | some x =>
    simp only [e] at h
    subst h
    have := AllL.get fs_all e
    rwa [Nat.zero_add] at this
theorem ev_sound (F d : Nat) : OSound Tryd.prog 2 (evD O0 fs F d) := OSound.evD (by kernel_rfl) O0_sound fs_ok d

/-! ### Old memory stays -/
theorem Chg.below {w w' : World} (h : Chg (fun _ => False) w w') : Below w.heap.size w w' := ⟨h.os, h.tape, h.output, h.size, fun k hk => h.block k hk (fun f => f)⟩
theorem Below.kept {w w' : World} (h : Below w.heap.size w w') (may : MemPlace → Prop) : w.keptBut w' may := by
  refine ⟨h.os, h.output, fun i hi => ?_⟩
  rw [h.block i hi]
  cases w.heap[i]? with
  | none => rfl
  | some o => cases o <;> first | rfl | exact ⟨rfl, rfl, rfl, fun _ _ => rfl⟩ | exact .inr ⟨rfl, rfl⟩
def rowed (P : Program) (ts : List TypeId) : Bool := ts.all fun t => P.readableRec t && decide (t < P.types.size)
theorem trodAll_below {H : Type} {enc : TypeId × Value → H} {P : Program} (hl : laidOutB P = true) {W W' : World} (hb : Below W.heap.size W W') :
    ∀ {ts : List TypeId} {vs : List Value} {ds : List (DataW H)} {ps : List MemPlace}, rowed P ts = true → DataW.TrodAll enc P W 0 (fun _ => true) true ts vs ds ps → (∀ x ∈ ps, x.block < W.heap.size) →
      DataW.TrodAll enc P W' 0 (fun b => decide (b < W.heap.size)) true ts vs ds ps
  | [], [], [], ps, _, h, _ => h
  | t :: ts, v :: vs, d :: ds, ps, hr, h, hlt => by
    simp only [rowed, List.all_cons, Bool.and_eq_true, decide_eq_true_eq] at hr
    obtain ⟨p, q, h1, h2, rfl⟩ := h
    exact ⟨p, q, Below.trod hl hr.1.1 hr.1.2 h1 hb (fun x hx => hlt x (List.mem_append_left _ hx)),
      trodAll_below hl hb (by simpa [rowed] using hr.2) h2 (fun x hx => hlt x (List.mem_append_right _ hx)), rfl⟩
  | [], [], _ :: _, _, _, h, _ => by cases h
  | [], _ :: _, _, _, _, h, _ => by cases h
  | _ :: _, [], _, _, _, h, _ => by cases h
  | _ :: _, _ :: _, [], _, _, h, _ => by cases h

/-! ### The table -/
def zs64 : List Int := [0, 1, 56, 2, 57, 49, 28, 3, 61, 58, 42, 50, 38, 29, 17, 4, 62, 47, 59, 36, 45, 43, 51, 22, 53, 39, 33, 30, 24, 18, 12, 5, 63, 55, 48, 27, 60, 41, 37, 16, 46, 35, 44, 21, 52, 32, 23, 11, 54, 26, 40, 15, 34, 20, 31, 10, 25, 14, 19, 9, 13, 8, 7, 6]
theorem laid_eq : (Rows.laid_math_bits_deBruijn64tab : DataW Unit) = Lib.tabData .u8 zs64 := rfl
theorem tab64_eq : tab64.cells = zs64.map (AV.i .u8) := rfl
theorem gTab : Tryd.prog.globalNamed "math/bits.deBruijn64tab" = some 0 := by kernel_rfl
theorem tTab : (Tryd.prog.globals[0]?).map (·.type) = some 126 := by kernel_rfl
theorem cTab : Tryd.prog.cellsOf 126 = 64 := by kernel_rfl
theorem cU8 : Tryd.prog.cellsOf 5 = 1 := by kernel_rfl
abbrev theLaid : List (String × DataW Unit) := [("math/bits.deBruijn64tab", Rows.laid_math_bits_deBruijn64tab)]
theorem of_laid {W : World} (h : laidMetH Tryd.prog theLaid W) (i : Nat) (z : Int) (hz : zs64[i]? = some z) : W.cell? ⟨0, i, none⟩ = some (.int .u8 z) := by
  rw [MakeChecks.laidMetH_plain _ _ _ (by kernel_rfl)] at h
  obtain ⟨ps, ⟨g, t, cs, fuel, p, q, hg, ht, hvar, hd, _, _⟩, _⟩ := h
  obtain rfl := Option.some.inj (gTab.symm.trans hg)
  obtain rfl := Option.some.inj (tTab.symm.trans ht)
  rw [laid_eq] at hd
  have hcs := Lib.cells_of_tab Tryd.underlying126 Tryd.underlying5 cU8 cTab hd
  rw [World.var?_cell hg hvar i, ← Array.getElem?_toList, hcs]
  simp [hz]

/-! ### Where the variables lie; memory that holds nothing but the table -/
def th0 : Th := fun id => if id < 2 then some (id, 0, 0) else none
theorem tab_rel {θ : Th} (hθ : θ 0 = some (0, 0, 0)) {W : World} (h : laidMetH Tryd.prog theLaid W) : ∃ b o c, θ 0 = some (b, o, c) ∧ b < W.heap.size ∧ BRel Tryd.prog θ tab64 b o c W := by
  refine ⟨0, 0, 0, hθ, ?_, ?_⟩
  · exact World.block_lt_of_cell? W _ (of_laid h 0 0 rfl)
  · unfold BRel
    rw [if_neg (by simp [tab64])]
    intro i v hv
    rw [tab64_eq, List.getElem?_map] at hv
    obtain ⟨z, hz, rfl⟩ := Option.map_eq_some_iff.1 hv
    exact ⟨_, by rw [Nat.zero_add]; exact of_laid h i z hz, by simp only [VRel]⟩

/-- What the evaluation comes to is what the call comes to. -/
theorem calls_of {F d g n : Nat} {args : List AV} {h : AHeap} {r : Option (AHeap × Nat)} {θ : Th} {W : World} {cargs : Array Value} (hev : evD O0 fs F d g args h n n = some (.b true, r)) (hown : ∀ id x, hget h id = some x → x.own = false)
    (hm : Mem Tryd.prog 2 θ h W) (hv : VRels θ args cargs.toList) (hb : HB h n) (hfree : ∀ id, n ≤ id → θ id = none) :
    Calls Tryd.prog g cargs W fun e W' => e = .returned (.bool true) ∧ Chg (fun _ => False) W W' := by
  obtain ⟨_, hs⟩ := ev_sound F d g args h n n _ _ hev
  obtain ⟨_, hc⟩ := hs hb
  refine (hc θ W cargs hm hv ?_).mono fun e W' hd => ?_
  · cases r with
    | none => trivial
    | some p => exact fun id h1 _ => hfree id h1
  · obtain ⟨u, rfl, hd⟩ := hd
    cases r with
    | none =>
      obtain ⟨h1, h2⟩ := hd
      simp only [VRel] at h1
      exact ⟨by rw [h1], h2⟩
    | some p =>
      obtain ⟨θ', h1, h2, h3⟩ := hd
      simp only [VRel] at h2
      refine ⟨by rw [h2], h3.chg.mono ?_⟩
      intro b _ hm
      obtain ⟨id, x, o, c, e1, e2, _⟩ := hm
      rw [hown id x e1] at e2; cases e2

/-- A row's frame. -/
theorem post_true {H : Type} {enc : TypeId × Value → H} {fn : Func} {s : ChangeSpec} {W W' : World} {args : Array Value} {ds : List (DataW H)} {before : List MemPlace} {t : TypeId} (hl : laidOutB Tryd.prog = true) (hr : rowed Tryd.prog fn.params.toList = true)
    (hrt : fn.resultTypes = #[t]) (ht : Tryd.prog.underlying t = some .bool) (hvars : s.vars = []) (hs : s.fn H ds = { results := [.lit (.bool true)], args := ds })
    (hW : DataW.Whole enc Tryd.prog fn.params.toList s.vars false W args.toList ds [] before) (hc : Chg (fun _ => False) W W') : s.post enc Tryd.prog fn false true false false W args (.bool true) W' := by
  have hW' := hW
  obtain ⟨p, q, hA, hV, rfl, hfz, hnd⟩ := hW
  have hlt : ∀ x ∈ p, x.block < W.heap.size := fun x hx => by simpa using hW'.lt x (List.mem_append_left _ hx)
  have hb := hc.below
  have hq : q = [] := by rw [hvars] at hV; exact hV
  subst hq
  have hv0 : ∀ sp, DataW.TrodVars enc Tryd.prog W' sp s.vars [] [] := fun sp => by rw [hvars]; rfl
  refine ⟨ds, [], _, [], p, [], hW', ?_, ?_, ?_, Below.kept hb _, fun h => by cases h⟩
  · rw [List.append_nil, hs, hrt]; exact trodAll_mk1 (shut_bool ht true)
  · rw [List.append_nil, hs]; exact trodAll_below hl hb hr hA hlt
  · rw [List.append_nil, hs]; exact hv0 _
theorem door_met (os : Os) (args : Array Value) : laidMetH Tryd.prog theLaid ((World.doorLaid Tryd.prog 400 os).forCall (fun _ _ => 0) ⟨#[], args, []⟩).memory :=
  laidMetH_of_parts3 (fuel := 8) (laidMet_of_run' 8 (by kernel_rfl) (by kernel_rfl)) (by kernel_rfl) (by kernel_rfl)
theorem laidOutP : laidOutB Tryd.prog = true := by kernel_rfl
theorem own : ownKnob Tryd.prog.godebug = none := by kernel_rfl
end Go.Proofs.YtogkkamlmklpkaaDoor.Ab
