/- The example alive() comes to true: the kernel's run of it, in which the check of a tableau is one word (its plain function). No condition. -/
import Derived.Test.YtchgkmdonhdfeaaGreatDoorH1
set_option linter.unusedSimpArgs false
set_option linter.unusedVariables false
set_option maxRecDepth 100000
namespace Go.Proofs.YtchgkmdonhdfeaaGreatDoor.Ab
open Go
@[reducible] def AllL (P:Program) (ng:Nat):Nat→List (Option AFn)→Prop
 |_,[]=>True
 |k,none::r=>AllL P ng (k+1) r
 |k,some f::r=>(∃ fn,P.funcs[k]? = some fn∧okFn P ng fn f=true)∧AllL P ng (k+1) r
theorem AllL.get {P:Program}{ng:Nat}:∀ {l:List (Option AFn)}{k g:Nat}{f:AFn},AllL P ng k l→l[g]? = some (some f)→∃ fn,P.funcs[k+g]? = some fn∧okFn P ng fn f=true
 | [],_,_,_,_,h=>by simp at h
 |none::r,k,0,f,_,h=>by simp at h
 |none::r,k,g+1,f,a,h=>by
  have:=AllL.get (l:=r) (k:=k+1) (g:=g) a (by simpa using h)
  rwa [show k+1+g=k+(g+1) by omega] at this
 |some f'::r,k,0,f,a,h=>by
  simp at h;subst h;exact a.1
 |some f'::r,k,g+1,f,a,h=>by
  have:=AllL.get (l:=r) (k:=k+1) (g:=g) a.2 (by simpa using h)
  rwa [show k+1+g=k+(g+1) by omega] at this
theorem fs_all:AllL Tryz.prog 3 0 fsL:=
 ⟨⟨_,Tryz.func3,ok3⟩,⟨_,Tryz.func6,ok6⟩,⟨_,Tryz.func7,ok7⟩,⟨_,Tryz.func8,ok8⟩,⟨_,Tryz.func9,ok9⟩,⟨_,Tryz.func10,ok10⟩,⟨_,Tryz.func11,ok11⟩,⟨_,Tryz.func12,ok12⟩,⟨_,Tryz.func13,ok13⟩,⟨_,Tryz.func15,ok15⟩,⟨_,Tryz.func20,ok20⟩,⟨_,Tryz.func22,ok22⟩,⟨_,Tryz.func23,ok23⟩,⟨_,Tryz.func24,ok24⟩,⟨_,Tryz.func25,ok25⟩,⟨_,Tryz.func26,ok26⟩,⟨_,Tryz.func27,ok27⟩,⟨_,Tryz.func28,ok28⟩,⟨_,Tryz.func29,ok29⟩,⟨_,Tryz.func30,ok30⟩,⟨_,Tryz.func31,ok31⟩,⟨_,Tryz.func32,ok32⟩,⟨_,Tryz.func33,ok33⟩,⟨_,Tryz.func34,ok34⟩,⟨_,Tryz.func35,ok35⟩,⟨_,Tryz.func36,ok36⟩,⟨_,Tryz.func37,ok37⟩,⟨_,Tryz.func38,ok38⟩,⟨_,Tryz.func39,ok39⟩,⟨_,Tryz.func40,ok40⟩,⟨_,Tryz.func41,ok41⟩,⟨_,Tryz.func42,ok42⟩,⟨_,Tryz.func43,ok43⟩,⟨_,Tryz.func44,ok44⟩,⟨_,Tryz.func48,ok48⟩,⟨_,Tryz.func55,ok55⟩,⟨_,Tryz.func56,ok56⟩,⟨_,Tryz.func57,ok57⟩,⟨_,Tryz.func58,ok58⟩,⟨_,Tryz.func59,ok59⟩,⟨_,Tryz.func60,ok60⟩,⟨_,Tryz.func61,ok61⟩,⟨_,Tryz.func68,ok68⟩,⟨_,Tryz.func69,ok69⟩,⟨_,Tryz.func70,ok70⟩,⟨_,Tryz.func71,ok71⟩,⟨_,Tryz.func72,ok72⟩,⟨_,Tryz.func73,ok73⟩,⟨_,Tryz.func74,ok74⟩,⟨_,Tryz.func75,ok75⟩,⟨_,Tryz.func76,ok76⟩,⟨_,Tryz.func77,ok77⟩,⟨_,Tryz.func78,ok78⟩,⟨_,Tryz.func79,ok79⟩,⟨_,Tryz.func80,ok80⟩,⟨_,Tryz.func81,ok81⟩,⟨_,Tryz.func82,ok82⟩,⟨_,Tryz.func83,ok83⟩,⟨_,Tryz.func84,ok84⟩,⟨_,Tryz.func85,ok85⟩,⟨_,Tryz.func86,ok86⟩,⟨_,Tryz.func91,ok91⟩,⟨_,Tryz.func92,ok92⟩,⟨_,Tryz.func93,ok93⟩,⟨_,Tryz.func94,ok94⟩,⟨_,Tryz.func95,ok95⟩,⟨_,Tryz.func102,ok102⟩,⟨_,Tryz.func103,ok103⟩,⟨_,Tryz.func104,ok104⟩,⟨_,Tryz.func105,ok105⟩,⟨_,Tryz.func106,ok106⟩,⟨_,Tryz.func107,ok107⟩,⟨_,Tryz.func108,ok108⟩,⟨_,Tryz.func109,ok109⟩,⟨_,Tryz.func110,ok110⟩,⟨_,Tryz.func111,ok111⟩,⟨_,Tryz.func112,ok112⟩,⟨_,Tryz.func113,ok113⟩,⟨_,Tryz.func114,ok114⟩,⟨_,Tryz.func116,ok116⟩,⟨_,Tryz.func117,ok117⟩,⟨_,Tryz.func118,ok118⟩,⟨_,Tryz.func119,ok119⟩,⟨_,Tryz.func120,ok120⟩,⟨_,Tryz.func121,ok121⟩,⟨_,Tryz.func122,ok122⟩,⟨_,Tryz.func128,ok128⟩,⟨_,Tryz.func129,ok129⟩,⟨_,Tryz.func131,ok131⟩,⟨_,Tryz.func132,ok132⟩,⟨_,Tryz.func134,ok134⟩,⟨_,Tryz.func135,ok135⟩,⟨_,Tryz.func136,ok136⟩,⟨_,Tryz.func137,ok137⟩,⟨_,Tryz.func138,ok138⟩,⟨_,Tryz.func139,ok139⟩,⟨_,Tryz.func140,ok140⟩,⟨_,Tryz.func141,ok141⟩,⟨_,Tryz.func142,ok142⟩,⟨_,Tryz.func143,ok143⟩,⟨_,Tryz.func144,ok144⟩,⟨_,Tryz.func146,ok146⟩,⟨_,Tryz.func147,ok147⟩,⟨_,Tryz.func148,ok148⟩,⟨_,Tryz.func149,ok149⟩,⟨_,Tryz.func150,ok150⟩,⟨_,Tryz.func151,ok151⟩,⟨_,Tryz.func153,ok153⟩,⟨_,Tryz.func154,ok154⟩,trivial⟩
theorem fs_ok (g:Nat)(f:AFn)(h:fs g=some f):∃ fn,Tryz.prog.funcs[g]? = some fn∧okFn Tryz.prog 3 fn f=true:=by
 unfold fs at h
 cases e:fsL[g]? with
 |none=>simp [e] at h
 |some x=>
  simp only [e] at h
  subst h
  have:=AllL.get fs_all e
  rwa [Nat.zero_add] at this
theorem fs1_ok (g:Nat)(f:AFn)(h:fs1 g=some f):∃ fn,Tryz.prog.funcs[g]? = some fn∧okFn Tryz.prog 3 fn f=true:=by
 unfold fs1 at h
 cases e:Nat.beq g 12 with
 |true=>rw [e] at h;cases h
 |false=>rw [e] at h;exact fs_ok g f h
theorem O1f_sound:OSound Tryz.prog 3 (O1 false):=fun g args h n fl v r he=>by
 by_cases hg:g=12
 ·subst hg
  unfold O1 at he
  rw [if_pos rfl,if_neg (fun q=>by cases q.1)] at he
  cases he
 ·rw [O1_of hg] at he
  exact O0_sound _ _ _ _ _ _ _ he
theorem OVz_sound (D:Nat):OSound Tryz.prog 3 (OV 200 D):=OSound.evV (by kernel_rfl) O1f_sound fs1_ok D
def dPl:List AV→Option (List Pl)
 | .i .i64 a :: .i .u64 x :: .i .u64 z :: .i .i64 p::r=>bif decide (U (BitVec.ofInt 64 x)=x)&&decide (U (BitVec.ofInt 64 z)=z) then match dPl r with
   |some l=>some (⟨a,BitVec.ofInt 64 x,BitVec.ofInt 64 z,p⟩::l)
   |none=>none
  else none
 | []=>some []
 |_=>none
theorem dPl_enc:∀ {c:List AV}{l:List Pl},dPl c=some l→c=enc Pl.cells l:=by
 intro c
 fun_induction dPl c<;>intro l h
 ·rename_i a x z p r c0 l0 hl ih
  cases h
  simp only [Bool.and_eq_true,decide_eq_true_eq] at c0
  simp only [enc,Pl.cells,List.cons_append,List.nil_append,c0.1,c0.2]
  rw [← ih hl]
 ·cases h
 ·cases h
 ·cases h;rfl
 ·cases h
def eqB:List AV→List Int→Bool
 | .i .u8 a::r,b::q=>decide (a=b)&&eqB r q
 | [],[]=>true
 |_,_=>false
theorem eqB_eq:∀ {c:List AV}{l:List Int},eqB c l=true→c=l.map (AV.i .u8):=by
 intro c l
 fun_induction eqB c l<;>intro h
 ·rename_i a r b q ih
  simp only [Bool.and_eq_true,decide_eq_true_eq] at h
  rw [h.1,ih h.2];rfl
 ·rfl
 ·cases h
def isG0:AHeap→Bool
 | [(k,⟨false,false,0,1,c⟩)]=>Nat.beq k 1&&eqB c zs64
 |_=>false
theorem isG0_eq {h:AHeap}(e:isG0 h=true):h=G0:=by
 unfold isG0 at e
 split at e
 ·rename_i k c
  simp only [Bool.and_eq_true] at e
  rw [eqB_eq e.2,← tab64_eq,Nat.eq_of_beq_eq_true e.1]
  rfl
 ·cases e
def chkz:List AV→Option (AV×Option (AHeap×Nat))
 | [.agg [.i .i64 N,.vs l1 .unk c1,.vs l2 .unk c2]]=>match dPl c1 with
  |none=>none
  |some s=>match dPl c2 with
   |none=>none
   |some d=>bif Nat.beq l1 s.length&&Nat.beq l2 d.length then match Ptableau_Check 200 N s d with
     |some r=>some (.i .i64 r,none)
     |none=>none
    else none
 |_=>none
theorem chkz_eq {zs:List AV}{q:Bool}{r:AV×Option (AHeap×Nat)}(h:chkz zs=some r):evW 3 (OV 200 5) 200 a22 (some zs) q G0=some r:=by
 unfold chkz at h
 split at h
 ·rename_i N l1 c1 l2 c2
  split at h
  ·cases h
  ·rename_i s hs
   split at h
   ·cases h
   ·rename_i d hd
    cases hb:Nat.beq l1 s.length&&Nat.beq l2 d.length with
    |false=>rw [hb] at h;cases h
    |true=>
     rw [hb] at h
     simp only [Bool.and_eq_true] at hb
     rw [dPl_enc hs,dPl_enc hd,Nat.eq_of_beq_eq_true hb.1,Nat.eq_of_beq_eq_true hb.2,etableau_Check 5 (by decide) 200 N s d q]
     rw [cond_true] at h
     cases hp:Ptableau_Check 200 N s d with
     |none=>rw [hp] at h;cases h
     |some x=>rw [hp] at h;exact h
 ·cases h
noncomputable def Oz:Orc:=fun g args h n fl=>bif Nat.beq g 22 then (bif Nat.beq fl (n+1)&&isG0 (hglb h 3) then match frzs (frz true 0 (bif AV.nors args then [] else h) 8) args with
  |some zs=>chkz zs
  |none=>none
 else none) else O0 g args h n fl
def fsz (g:Nat):Option AFn:=bif Nat.beq g 22 then none else fs g
theorem fsz_ok (g:Nat)(f:AFn)(h:fsz g=some f):∃ fn,Tryz.prog.funcs[g]? = some fn∧okFn Tryz.prog 3 fn f=true:=by
 unfold fsz at h
 cases e:Nat.beq g 22 with
 |true=>rw [e] at h;cases h
 |false=>rw [e] at h;exact fs_ok g f h
theorem Oz_sound:OSound Tryz.prog 3 Oz:=fun g args h n fl v r he=>by
 unfold Oz at he
 cases hg:Nat.beq g 22 with
 |false=>rw [hg] at he;exact O0_sound _ _ _ _ _ _ _ he
 |true=>
  have hg':=Nat.eq_of_beq_eq_true hg
  subst hg'
  rw [hg,cond_true] at he
  cases hb:Nat.beq fl (n+1)&&isG0 (hglb h 3) with
  |false=>rw [hb] at he;cases he
  |true=>
   rw [hb,cond_true] at he
   simp only [Bool.and_eq_true] at hb
   have hf:=Nat.eq_of_beq_eq_true hb.1
   subst hf
   split at he
   ·rename_i zs has
    refine OVz_sound 6 _ _ _ _ _ _ _ ((vtableau_Check (D:=5) (F:=200)).trans ?_)
    rw [isG0_eq hb.2,has]
    exact chkz_eq he
   ·cases he
def isT:Option (AV×Option (AHeap×Nat))→Bool
 |some (.b true,none)=>true
 |_=>false
theorem isT_of {r:Option (AV×Option (AHeap×Nat))}(h:isT r=true):r=some (.b true,none):=by
 unfold isT at h
 split at h
 ·rfl
 ·cases h
theorem alive_true:isT (evV 3 Oz fsz 200 12 12 [] [(1,tab64)] 3 (3+1))=true:=by kernel_rfl
end Go.Proofs.YtchgkmdonhdfeaaGreatDoor.Ab
