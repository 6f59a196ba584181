/- The oracle with the example as one word is sound: the example comes to true by the kernel's run of it. No condition. -/
import Derived.Test.YtlgmimclpmolmaaGreatDoorK1
import Derived.Test.YtlgmimclpmolmaaGreatDoorN1
set_option linter.unusedSimpArgs false
set_option linter.unusedVariables false
set_option maxRecDepth 100000
namespace Go.Proofs.YtlgmimclpmolmaaGreatDoor.Ab
open Go
@[reducible] def AllL (P:Program) (ng:Nat):Nat→List (Option AFn)→Prop
 |_,[]=>True
 |k,none::r=>AllL P ng (k+1) r
 |k,some f::r=>(∃ fn,P.funcs[k]? = some fn∧okFn P ng fn f=true)∧AllL P ng (k+1) r
theorem AllL.get {P:Program}{ng:Nat}:∀ {l:List (Option AFn)}{k g:Nat}{f:AFn},AllL P ng k l→l[g]? = some (some f)→∃ fn,P.funcs[k+g]? = some fn∧okFn P ng fn f=true
 | [],_,_,_,_,h=>by simp at h
 |none::r,k,0,f,_,h=>by simp at h
 |none::r,k,g+1,f,a,h=>by
  have:=AllL.get (l:=r) (k:=k+1) (g:=g) a (by simpa using h)
  rwa [show k+1+g=k+(g+1) by omega] at this
 |some f'::r,k,0,f,a,h=>by
  simp at h;subst h;exact a.1
 |some f'::r,k,g+1,f,a,h=>by
  have:=AllL.get (l:=r) (k:=k+1) (g:=g) a.2 (by simpa using h)
  rwa [show k+1+g=k+(g+1) by omega] at this
theorem fs_all:AllL Tryz.prog 3 0 fsL:=
 ⟨⟨_,Tryz.func3,ok3⟩,⟨_,Tryz.func4,ok4⟩,⟨_,Tryz.func5,ok5⟩,⟨_,Tryz.func6,ok6⟩,⟨_,Tryz.func7,ok7⟩,⟨_,Tryz.func8,ok8⟩,⟨_,Tryz.func9,ok9⟩,⟨_,Tryz.func10,ok10⟩,⟨_,Tryz.func11,ok11⟩,⟨_,Tryz.func12,ok12⟩,⟨_,Tryz.func13,ok13⟩,⟨_,Tryz.func14,ok14⟩,⟨_,Tryz.func15,ok15⟩,⟨_,Tryz.func16,ok16⟩,⟨_,Tryz.func17,ok17⟩,⟨_,Tryz.func18,ok18⟩,⟨_,Tryz.func19,ok19⟩,⟨_,Tryz.func20,ok20⟩,⟨_,Tryz.func21,ok21⟩,⟨_,Tryz.func22,ok22⟩,⟨_,Tryz.func23,ok23⟩,⟨_,Tryz.func24,ok24⟩,⟨_,Tryz.func25,ok25⟩,⟨_,Tryz.func26,ok26⟩,⟨_,Tryz.func27,ok27⟩,⟨_,Tryz.func28,ok28⟩,⟨_,Tryz.func29,ok29⟩,⟨_,Tryz.func30,ok30⟩,⟨_,Tryz.func31,ok31⟩,⟨_,Tryz.func32,ok32⟩,⟨_,Tryz.func33,ok33⟩,⟨_,Tryz.func34,ok34⟩,⟨_,Tryz.func35,ok35⟩,⟨_,Tryz.func36,ok36⟩,⟨_,Tryz.func37,ok37⟩,⟨_,Tryz.func38,ok38⟩,⟨_,Tryz.func39,ok39⟩,⟨_,Tryz.func40,ok40⟩,⟨_,Tryz.func41,ok41⟩,⟨_,Tryz.func42,ok42⟩,⟨_,Tryz.func43,ok43⟩,⟨_,Tryz.func44,ok44⟩,⟨_,Tryz.func45,ok45⟩,⟨_,Tryz.func46,ok46⟩,⟨_,Tryz.func47,ok47⟩,⟨_,Tryz.func48,ok48⟩,⟨_,Tryz.func49,ok49⟩,⟨_,Tryz.func50,ok50⟩,⟨_,Tryz.func51,ok51⟩,⟨_,Tryz.func52,ok52⟩,⟨_,Tryz.func53,ok53⟩,⟨_,Tryz.func54,ok54⟩,⟨_,Tryz.func55,ok55⟩,⟨_,Tryz.func56,ok56⟩,⟨_,Tryz.func57,ok57⟩,⟨_,Tryz.func58,ok58⟩,⟨_,Tryz.func59,ok59⟩,⟨_,Tryz.func60,ok60⟩,⟨_,Tryz.func61,ok61⟩,⟨_,Tryz.func62,ok62⟩,⟨_,Tryz.func63,ok63⟩,⟨_,Tryz.func64,ok64⟩,⟨_,Tryz.func65,ok65⟩,⟨_,Tryz.func66,ok66⟩,⟨_,Tryz.func67,ok67⟩,⟨_,Tryz.func68,ok68⟩,⟨_,Tryz.func69,ok69⟩,⟨_,Tryz.func70,ok70⟩,⟨_,Tryz.func71,ok71⟩,⟨_,Tryz.func72,ok72⟩,⟨_,Tryz.func73,ok73⟩,⟨_,Tryz.func74,ok74⟩,⟨_,Tryz.func75,ok75⟩,⟨_,Tryz.func76,ok76⟩,⟨_,Tryz.func77,ok77⟩,⟨_,Tryz.func78,ok78⟩,⟨_,Tryz.func79,ok79⟩,⟨_,Tryz.func80,ok80⟩,⟨_,Tryz.func81,ok81⟩,⟨_,Tryz.func82,ok82⟩,⟨_,Tryz.func83,ok83⟩,⟨_,Tryz.func84,ok84⟩,⟨_,Tryz.func85,ok85⟩,⟨_,Tryz.func86,ok86⟩,⟨_,Tryz.func87,ok87⟩,⟨_,Tryz.func88,ok88⟩,⟨_,Tryz.func89,ok89⟩,⟨_,Tryz.func91,ok91⟩,⟨_,Tryz.func92,ok92⟩,⟨_,Tryz.func93,ok93⟩,⟨_,Tryz.func94,ok94⟩,⟨_,Tryz.func95,ok95⟩,⟨_,Tryz.func96,ok96⟩,⟨_,Tryz.func97,ok97⟩,⟨_,Tryz.func98,ok98⟩,⟨_,Tryz.func99,ok99⟩,⟨_,Tryz.func100,ok100⟩,⟨_,Tryz.func101,ok101⟩,⟨_,Tryz.func102,ok102⟩,⟨_,Tryz.func103,ok103⟩,⟨_,Tryz.func104,ok104⟩,⟨_,Tryz.func105,ok105⟩,⟨_,Tryz.func106,ok106⟩,⟨_,Tryz.func108,ok108⟩,⟨_,Tryz.func109,ok109⟩,⟨_,Tryz.func111,ok111⟩,⟨_,Tryz.func113,ok113⟩,⟨_,Tryz.func114,ok114⟩,trivial⟩
theorem fs_ok (g:Nat)(f:AFn)(h:fs g=some f):∃ fn,Tryz.prog.funcs[g]? = some fn∧okFn Tryz.prog 3 fn f=true:=by
 unfold fs at h
 cases e:fsL[g]? with
 |none=>simp [e] at h
 |some x=>
  simp only [e] at h
  subst h
  have:=AllL.get fs_all e
  rwa [Nat.zero_add] at this
theorem O1_sound:OSound Tryz.prog 3 O1:=fun g args h n fl v r he=>by
 by_cases hg:g=11
 ·subst hg
  unfold O1 at he
  rw [if_pos rfl] at he
  split at he
  ·rename_i hc
   obtain ⟨rfl,rfl,hG⟩:=hc
   have e0:hglb [(1,tab64)] 3=G0:=rfl
   have e1:=isT_of alive_true
   have f0:fs 11=some a11:=rfl
   have hP:Tryz.prog.follows .mixedOrders=true:=by kernel_rfl
   have e2:evV 3 O0 fs 200 12 11 [] h n (n+1)=some (.b true,none):=by
    rw [evV_frozen f0,hG]
    rw [evV_frozen f0,e0] at e1
    exact e1
   cases he
   exact OSound.evV hP O0_sound fs_ok 12 _ _ _ _ _ _ _ e2
  ·cases he
 ·rw [O1_of hg] at he
  exact O0_sound _ _ _ _ _ _ _ he
theorem fs1_ok (g:Nat)(f:AFn)(h:fs1 g=some f):∃ fn,Tryz.prog.funcs[g]? = some fn∧okFn Tryz.prog 3 fn f=true:=by
 unfold fs1 at h
 cases e:Nat.beq g 11 with
 |true=>rw [e] at h;cases h
 |false=>rw [e] at h;exact fs_ok g f h
theorem OV_sound (F D:Nat):OSound Tryz.prog 3 (OV F D):=OSound.evV (by kernel_rfl) O1_sound fs1_ok D
end Go.Proofs.YtlgmimclpmolmaaGreatDoor.Ab
