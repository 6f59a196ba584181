/- Each operation of the abstract machine does what the model's operation does (last part: which abstract operation stands for which). No condition: definitions and lemmas only. -/
import Derived.Test.YtogkkamlmklpkaaDoorA10
set_option linter.unusedVariables false
set_option linter.unusedSimpArgs false
namespace Go.Proofs.YtogkkamlmklpkaaDoor.Ab
open Go

def okCall (P : Program) (ng : Nat) (c : Call) : AOp → Bool
  | .call _ f args => match c.callee with
    | .value f' => okX ng f' f && okXs ng c.args.toList args
    | _ => false
  | .len str x => match c with
    | ⟨.builtin .len, ⟨[x']⟩, ⟨[t]⟩⟩ => okX ng x' x && (match P.underlying t with | some .string => str | some (.slice _) => !str | _ => false)
    | _ => false
  | .mm mx x y => match c with
    | ⟨.builtin .max, ⟨[x', y']⟩, ⟨[_, _]⟩⟩ => mx && okX ng x' x && okX ng y' y
    | ⟨.builtin .min, ⟨[x', y']⟩, ⟨[_, _]⟩⟩ => !mx && okX ng x' x && okX ng y' y
    | _ => false
  | .app ety esz bytes x y => match c with
    | ⟨.builtin .append, ⟨[x', y']⟩, ⟨[t, t']⟩⟩ => Nat.beq t t' && okX ng x' x && okX ng y' y && appOk P t ety esz bytes
    | _ => false
  | .pop p xs => match c with
    | ⟨.builtin .real, ⟨[x']⟩, _⟩ => (match p with | .re => okXs ng [x'] xs | _ => false)
    | ⟨.builtin .imag, ⟨[x']⟩, _⟩ => (match p with | .im => okXs ng [x'] xs | _ => false)
    | ⟨.value (.func f), ⟨[x']⟩, _⟩ => (match p with
      | .fbits => isExt P f "math.Float64bits" && okXs ng [x'] xs
      | .ffrom => isExt P f "math.Float64frombits" && okXs ng [x'] xs
      | _ => false)
    | ⟨.builtin .complex, ⟨[x', y']⟩, _⟩ => (match p with | .mk => okXs ng [x', y'] xs | _ => false)
    | _ => false
  | _ => false

def okBin (P : Program) (ng : Nat) (op' : BinOp) (t : TypeId) (x' y' : Operand) : AOp → Bool
  | .bin op x y => decide (op' = op) && okX ng x' x && okX ng y' y
  | .eqs neg bs x y => decide (op' = if neg then .neq else .eql) && okX ng x' x && okX ng y' y && eqsOk P t bs
  | .eqb neg x y => decide (op' = if neg then .neq else .eql) && okX ng x' x && okX ng y' y && (match P.underlying t with | some .bool => true | _ => false)
  | .eqnil neg x => decide (op' = if neg then .neq else .eql) && okX ng x' x && (match y' with | .const (.slice none 0 0) => true | _ => false) && (match P.underlying t with | some (.slice _) => true | _ => false)
  | .pop (.fbin op) xs => decide (op' = op) && okXs ng [x', y'] xs
  | .pop (.fcmp op) xs => decide (op' = op) && okXs ng [x', y'] xs
  | .pop (.ceq neg) xs => decide (op' = if neg then .neq else .eql) && okXs ng [x', y'] xs
  | .pop (.pnil neg) xs => decide (op' = if neg then .neq else .eql) && okXs ng [x'] xs && (match y' with | .const (.pointer none) => true | _ => false) && (match P.underlying t with | some (.pointer e) => Nat.beq e (P.pointee t) | _ => false)
  | _ => false

def okIdx (P : Program) (ng : Nat) (t : TypeId) (x' i' : Operand) : AOp → Bool
  | .idx esz agg len x i => okX ng x' x && okX ng i' i && idxOk P t len esz agg
  | .idxs x i => okX ng x' x && okX ng i' i && (match P.underlying t with | some .string => true | _ => false)
  | _ => false

def okIadr (P : Program) (ng : Nat) (t : TypeId) (x' i' : Operand) : AOp → Bool
  | .iadr esz x i => okX ng x' x && okX ng i' i && sliceE P t esz
  | .iadra esz len x i => okX ng x' x && okX ng i' i && arrayE P t len esz
  | _ => false

/-- Does the abstract operation stand for the model's? -/
def okOp (P : Program) (ng : Nat) (o : Op) (ao : AOp) : Bool :=
  match o with
  | .move y | .assign y => match ao with | .mv x => okX ng y x | _ => false
  | .pick c' x' y' => match ao with | .pick c x y => okX ng c' c && okX ng x' x && okX ng y' y | _ => false
  | .alloc t => match ao with | .alloc _ ty z => Nat.beq t ty && zeroOk P ty z | _ => false
  | .box t y => match ao with | .box _ ty x => Nat.beq t ty && okX ng y x | _ => false
  | .build t parts => match ao with | .build z ps => buildOk P ng t parts z ps | _ => false
  | .buildSlice t len parts => match ao with | .bslice ety esz alen z ps => bsliceOk P ng t len parts ety esz alen z ps | _ => false
  | .load t y => match ao with | .load sz x => okX ng y x && decide (lie P t = some sz) | _ => false
  | .store t y z => match ao with | .store sz x v => okX ng y x && okX ng z v && decide ((P.info? t).map (·.size) = some sz) | _ => false
  | .binOp op t x y _ => okBin P ng op t x y ao
  | .nilCheck y => match ao with | .nchk x => okX ng y x | _ => false
  | .unOp op t x' => match ao with
    | .un op' x => decide (op = op') && okX ng x' x
    | .pop .fneg xs => decide (op = .neg) && okXs ng [x'] xs
    | _ => false
  | .convert src dst x' => match ao with
    | .conv kd x => okX ng x' x && (P.underlying src).isSome && (match P.underlying dst with | some (.int k) => IntKind.same k kd | _ => false)
    | .pop .ofi xs => okXs ng [x'] xs && (P.underlying src).isSome && (match P.underlying dst with | some (.float .f64) => true | _ => false)
    | .pop (.toi kd) xs => okXs ng [x'] xs && (P.underlying src).isSome && (match P.underlying dst with | some (.int k) => IntKind.same k kd | _ => false)
    | _ => false
  | .makeFunc fn f1 c1 => match ao with | .mkf fn' f2 c2 => decide (fn = fn') && okXs ng f1.toList f2 && okXs ng c1.toList c2 | _ => false
  | .makeSlice t x' y' => match ao with | .mks ety esz bytes z x y => okX ng x' x && okX ng y' y && mksOk P t ety esz bytes z | _ => false
  | .slice t x' lo' hi' mx' => match ao with | .slc esz x lo hi mx => okX ng x' x && okXo ng lo' lo && okXo ng hi' hi && okXo ng mx' mx && (!mx.isSome || hi.isSome) && sliceE P t esz | _ => false
  | .fieldAddr t x' j => match ao with | .fadr off x => okX ng x' x && fieldOff P t j off | _ => false
  | .field t x' j => match ao with | .fld off sz x => okX ng x' x && fieldLie P t j off sz | _ => false
  | .indexAddr t x' i' => okIadr P ng t x' i' ao
  | .index t x' i' => okIdx P ng t x' i' ao
  | .extract x' j => match ao with | .ext x i => Nat.beq i j && okX ng x' x | _ => false
  | .call c => okCall P ng c ao
  | _ => false

section
variable {P : Program} {C : Cx} {O : Orc} {s : AS} {o : Oper} {k : Eff → Foot → Option Res} {r : Res}

theorem call_sound {c : Call} {ao : AOp} (hO : OSound P C.ng O) (hb : HB s.h s.n) (ho : o.op = .call c) (ok : okCall P C.ng c ao = true) (h : evOp O C.fl o.dst ao s k = some r) : OpS P C s o ao k r := by
  unfold okCall at ok
  split at ok
  · split at ok
    · rename_i f' hc
      obtain ⟨cal, ar, ts⟩ := c
      simp only at hc; subst hc
      simp only [Bool.and_eq_true] at ok
      exact s_call hO hb ho ok h
    · cases ok
  · split at ok
    · simp only [Bool.and_eq_true] at ok
      exact s_len (t' := 0) ho ok.1 ok.2 h
    · cases ok
  · split at ok
    · simp only [Bool.and_eq_true] at ok
      rename_i mx _ _ _ _ _ _ _
      obtain ⟨⟨q, o1⟩, o2⟩ := ok
      subst q
      exact s_mm (mx := true) (by simpa using ho) ⟨o1, o2⟩ h
    · simp only [Bool.and_eq_true] at ok
      rename_i mx _ _ _ _ _ _ _
      obtain ⟨⟨q, o1⟩, o2⟩ := ok
      cases mx with
      | true => simp at q
      | false => exact s_mm (mx := false) (by simpa using ho) ⟨o1, o2⟩ h
    · cases ok
  · split at ok
    · simp only [Bool.and_eq_true] at ok
      obtain ⟨⟨⟨q, o1⟩, o2⟩, o3⟩ := ok
      have q := beq_true.1 q; subst q
      exact s_app ho ⟨o1, o2⟩ o3 h
    · cases ok
  · split at ok
    · split at ok
      · exact s_pop (p_re ho) ok h
      · cases ok
    · split at ok
      · exact s_pop (p_im ho) ok h
      · cases ok
    · split at ok
      · simp only [Bool.and_eq_true] at ok; exact s_pop (p_fbits ho ok.1) ok.2 h
      · simp only [Bool.and_eq_true] at ok; exact s_pop (p_ffrom ho ok.1) ok.2 h
      · cases ok
    · split at ok
      · exact s_pop (p_mk ho) ok h
      · cases ok
    · cases ok
  · cases ok

theorem bin_sound {op' : BinOp} {t t' : TypeId} {x' y' : Operand} {ao : AOp} (ho : o.op = .binOp op' t x' y' t') (ok : okBin P C.ng op' t x' y' ao = true) (h : evOp O C.fl o.dst ao s k = some r) : OpS P C s o ao k r := by
  unfold okBin at ok
  split at ok
  · simp only [Bool.and_eq_true, decide_eq_true_eq] at ok
    obtain ⟨⟨q, o1⟩, o2⟩ := ok; subst q
    exact s_bin ho ⟨o1, o2⟩ h
  · simp only [Bool.and_eq_true, decide_eq_true_eq] at ok
    obtain ⟨⟨⟨q, o1⟩, o2⟩, o3⟩ := ok; subst q
    exact s_eqs ho ⟨o1, o2⟩ o3 h
  · simp only [Bool.and_eq_true, decide_eq_true_eq] at ok
    obtain ⟨⟨⟨q, o1⟩, o2⟩, o3⟩ := ok; subst q
    refine s_eqb ho ⟨o1, o2⟩ ?_ h
    split at o3
    · assumption
    · cases o3
  · simp only [Bool.and_eq_true, decide_eq_true_eq] at ok
    obtain ⟨⟨⟨q, o1⟩, o2⟩, o3⟩ := ok; subst q
    split at o2
    · split at o3
      · exact s_eqnil ho o1 (by assumption) h
      · cases o3
    · cases o2
  · simp only [Bool.and_eq_true, decide_eq_true_eq] at ok
    obtain ⟨q, o1⟩ := ok; subst q
    exact s_pop (p_fbin ho) o1 h
  · simp only [Bool.and_eq_true, decide_eq_true_eq] at ok
    obtain ⟨q, o1⟩ := ok; subst q
    exact s_pop (p_fcmp ho) o1 h
  · simp only [Bool.and_eq_true, decide_eq_true_eq] at ok
    obtain ⟨q, o1⟩ := ok; subst q
    exact s_pop (p_ceq ho) o1 h
  · simp only [Bool.and_eq_true, decide_eq_true_eq] at ok
    obtain ⟨⟨⟨q, o1⟩, o2⟩, o3⟩ := ok; subst q
    split at o2
    · split at o3
      · have q := beq_true.1 o3
        rename_i e he
        exact s_pop (p_pnil ho (by rw [he, q])) o1 h
      · cases o3
    · cases o2
  · cases ok

theorem idx_sound {t : TypeId} {x' i' : Operand} {ao : AOp} (ho : o.op = .index t x' i') (ok : okIdx P C.ng t x' i' ao = true) (h : evOp O C.fl o.dst ao s k = some r) : OpS P C s o ao k r := by
  unfold okIdx at ok
  split at ok
  · simp only [Bool.and_eq_true] at ok
    exact s_idx ho ok.1 ok.2 h
  · simp only [Bool.and_eq_true] at ok
    refine s_idxs ho ok.1 ?_ h
    have := ok.2
    split at this
    · assumption
    · cases this
  · cases ok

theorem iadr_sound {t : TypeId} {x' i' : Operand} {ao : AOp} (ho : o.op = .indexAddr t x' i') (ok : okIadr P C.ng t x' i' ao = true) (h : evOp O C.fl o.dst ao s k = some r) : OpS P C s o ao k r := by
  unfold okIadr at ok
  split at ok
  · simp only [Bool.and_eq_true] at ok
    exact s_iadr ho ok.1 ok.2 h
  · simp only [Bool.and_eq_true] at ok
    exact s_iadra ho ok.1 ok.2 h
  · cases ok

theorem op_sound {ao : AOp} (hO : OSound P C.ng O) (hb : HB s.h s.n) (ok : okOp P C.ng o.op ao = true) (h : evOp O C.fl o.dst ao s k = some r) : OpS P C s o ao k r := by
  unfold okOp at ok
  split at ok
  · split at ok
    · exact s_mv (.inl (by assumption)) ok h
    · cases ok
  · split at ok
    · exact s_mv (.inr (by assumption)) ok h
    · cases ok
  · split at ok
    · simp only [Bool.and_eq_true] at ok; exact s_pick (by assumption) ⟨ok.1.1, ok.1.2, ok.2⟩ h
    · cases ok
  · split at ok
    · simp only [Bool.and_eq_true] at ok
      have q := beq_true.1 ok.1; subst q
      exact s_alloc (by assumption) ok.2 h
    · cases ok
  · split at ok
    · simp only [Bool.and_eq_true] at ok
      have q := beq_true.1 ok.1; subst q
      exact s_box (by assumption) ok.2 h
    · cases ok
  · split at ok
    · exact s_build (by assumption) ok h
    · cases ok
  · split at ok
    · exact s_bslice (by assumption) ok h
    · cases ok
  · split at ok
    · simp only [Bool.and_eq_true, decide_eq_true_eq] at ok; exact s_load (by assumption) ok.1 ok.2 h
    · cases ok
  · split at ok
    · simp only [Bool.and_eq_true, decide_eq_true_eq] at ok; exact s_store (by assumption) ok.1 ok.2 h
    · cases ok
  · exact bin_sound (by assumption) ok h
  · split at ok
    · exact s_nchk (by assumption) ok h
    · cases ok
  · split at ok
    · simp only [Bool.and_eq_true, decide_eq_true_eq] at ok
      obtain ⟨q, o1⟩ := ok; subst q
      exact s_un (by assumption) o1 h
    · simp only [Bool.and_eq_true, decide_eq_true_eq] at ok
      obtain ⟨q, o1⟩ := ok; subst q
      exact s_pop (p_fneg (by assumption)) o1 h
    · cases ok
  · split at ok
    · simp only [Bool.and_eq_true] at ok
      obtain ⟨⟨o1, o2⟩, o3⟩ := ok
      refine s_conv (by assumption) o1 o2 ?_ h
      split at o3
      · rename_i k2 hk; rw [hk, same_eq o3]
      · cases o3
    · simp only [Bool.and_eq_true] at ok
      obtain ⟨⟨o1, o2⟩, o3⟩ := ok
      split at o3
      · exact s_pop (p_ofi (by assumption) o2 (by assumption)) o1 h
      · cases o3
    · simp only [Bool.and_eq_true] at ok
      obtain ⟨⟨o1, o2⟩, o3⟩ := ok
      split at o3
      · rename_i k2 hk
        exact s_pop (p_toi (by assumption) o2 (by rw [hk, same_eq o3])) o1 h
      · cases o3
    · cases ok
  · split at ok
    · simp only [Bool.and_eq_true, decide_eq_true_eq] at ok
      obtain ⟨⟨q, o1⟩, o2⟩ := ok; subst q
      exact s_mkf (by assumption) ⟨o1, o2⟩ h
    · cases ok
  · split at ok
    · simp only [Bool.and_eq_true] at ok; exact s_mks (by assumption) ok.1 ok.2 h
    · cases ok
  · split at ok
    · simp only [Bool.and_eq_true] at ok
      obtain ⟨⟨⟨⟨⟨o1, o2⟩, o3⟩, o4⟩, o5⟩, o6⟩ := ok
      exact s_slc (by assumption) o1 ⟨o2, o3, o4⟩ o5 o6 h
    · cases ok
  · split at ok
    · simp only [Bool.and_eq_true] at ok; exact s_fadr (by assumption) ok.1 ok.2 h
    · cases ok
  · split at ok
    · simp only [Bool.and_eq_true] at ok; exact s_fld (by assumption) ok.1 ok.2 h
    · cases ok
  · exact iadr_sound (by assumption) ok h
  · exact idx_sound (by assumption) ok h
  · split at ok
    · simp only [Bool.and_eq_true] at ok
      have q := beq_true.1 ok.1; subst q
      exact s_ext (by assumption) ok.2 h
    · cases ok
  · exact call_sound hO hb (by assumption) ok h
  · cases ok

/-- With the word upon the memory's heirs. -/
theorem op_all {ao : AOp} (hO : OSound P C.ng O) (hb : HB s.h s.n) (ok : okOp P C.ng o.op ao = true) (h : evOp O C.fl o.dst ao s k = some r) :
    ∃ e f, k e f = some r ∧ HeirE s e ∧ s.n ≤ e.n ∧ OpOK P C s o ao e f := by
  obtain ⟨e, f, h1, h2, h3⟩ := op_sound hO hb ok (evOp_heir hO.heir hb h)
  obtain ⟨q1, q2⟩ := kg_of h1
  exact ⟨e, f, q2, q1, h2, h3⟩

end
end Go.Proofs.YtogkkamlmklpkaaDoor.Ab
