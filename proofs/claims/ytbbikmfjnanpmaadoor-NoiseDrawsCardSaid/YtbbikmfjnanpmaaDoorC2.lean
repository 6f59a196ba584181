/- The oracle with the example as one word is sound: the example comes to true by the kernel's run of it. No condition. -/
import Derived.Test.YtbbikmfjnanpmaaDoorK1
import Derived.Test.YtbbikmfjnanpmaaDoorN1
set_option linter.unusedSimpArgs false
set_option linter.unusedVariables false
set_option maxRecDepth 100000
namespace Go.Proofs.YtbbikmfjnanpmaaDoor.Ab
open Go
@[reducible] def AllL (P:Program) (ng:Nat):Nat→List (Option AFn)→Prop
 |_,[]=>True
 |k,none::r=>AllL P ng (k+1) r
 |k,some f::r=>(∃ fn,P.funcs[k]? = some fn∧okFn P ng fn f=true)∧AllL P ng (k+1) r
theorem AllL.get {P:Program}{ng:Nat}:∀ {l:List (Option AFn)}{k g:Nat}{f:AFn},AllL P ng k l→l[g]? = some (some f)→∃ fn,P.funcs[k+g]? = some fn∧okFn P ng fn f=true
 | [],_,_,_,_,h=>by simp at h
 |none::r,k,0,f,_,h=>by simp at h
 |none::r,k,g+1,f,a,h=>by
  have:=AllL.get (l:=r) (k:=k+1) (g:=g) a (by simpa using h)
  rwa [show k+1+g=k+(g+1) by omega] at this
 |some f'::r,k,0,f,a,h=>by
  simp at h;subst h;exact a.1
 |some f'::r,k,g+1,f,a,h=>by
  have:=AllL.get (l:=r) (k:=k+1) (g:=g) a.2 (by simpa using h)
  rwa [show k+1+g=k+(g+1) by omega] at this
theorem fs_all:AllL Tryd.prog 3 0 fsL:=
 ⟨⟨_,Tryd.func4,ok4⟩,⟨_,Tryd.func9,ok9⟩,⟨_,Tryd.func11,ok11⟩,⟨_,Tryd.func13,ok13⟩,⟨_,Tryd.func15,ok15⟩,⟨_,Tryd.func16,ok16⟩,⟨_,Tryd.func17,ok17⟩,⟨_,Tryd.func18,ok18⟩,⟨_,Tryd.func19,ok19⟩,⟨_,Tryd.func20,ok20⟩,⟨_,Tryd.func21,ok21⟩,⟨_,Tryd.func28,ok28⟩,⟨_,Tryd.func29,ok29⟩,⟨_,Tryd.func30,ok30⟩,⟨_,Tryd.func33,ok33⟩,⟨_,Tryd.func34,ok34⟩,⟨_,Tryd.func35,ok35⟩,⟨_,Tryd.func37,ok37⟩,⟨_,Tryd.func38,ok38⟩,⟨_,Tryd.func39,ok39⟩,⟨_,Tryd.func41,ok41⟩,⟨_,Tryd.func42,ok42⟩,⟨_,Tryd.func43,ok43⟩,⟨_,Tryd.func49,ok49⟩,⟨_,Tryd.func50,ok50⟩,⟨_,Tryd.func52,ok52⟩,⟨_,Tryd.func53,ok53⟩,⟨_,Tryd.func55,ok55⟩,⟨_,Tryd.func56,ok56⟩,⟨_,Tryd.func58,ok58⟩,⟨_,Tryd.func59,ok59⟩,⟨_,Tryd.func60,ok60⟩,⟨_,Tryd.func61,ok61⟩,⟨_,Tryd.func63,ok63⟩,⟨_,Tryd.func64,ok64⟩,⟨_,Tryd.func69,ok69⟩,⟨_,Tryd.func70,ok70⟩,⟨_,Tryd.func71,ok71⟩,⟨_,Tryd.func72,ok72⟩,⟨_,Tryd.func73,ok73⟩,⟨_,Tryd.func74,ok74⟩,⟨_,Tryd.func75,ok75⟩,⟨_,Tryd.func76,ok76⟩,⟨_,Tryd.func77,ok77⟩,⟨_,Tryd.func78,ok78⟩,⟨_,Tryd.func79,ok79⟩,⟨_,Tryd.func80,ok80⟩,⟨_,Tryd.func81,ok81⟩,⟨_,Tryd.func82,ok82⟩,⟨_,Tryd.func83,ok83⟩,⟨_,Tryd.func84,ok84⟩,⟨_,Tryd.func85,ok85⟩,⟨_,Tryd.func86,ok86⟩,⟨_,Tryd.func87,ok87⟩,⟨_,Tryd.func89,ok89⟩,⟨_,Tryd.func92,ok92⟩,⟨_,Tryd.func93,ok93⟩,⟨_,Tryd.func94,ok94⟩,⟨_,Tryd.func95,ok95⟩,⟨_,Tryd.func96,ok96⟩,⟨_,Tryd.func97,ok97⟩,⟨_,Tryd.func98,ok98⟩,⟨_,Tryd.func99,ok99⟩,⟨_,Tryd.func100,ok100⟩,⟨_,Tryd.func103,ok103⟩,⟨_,Tryd.func105,ok105⟩,⟨_,Tryd.func107,ok107⟩,⟨_,Tryd.func108,ok108⟩,⟨_,Tryd.func109,ok109⟩,⟨_,Tryd.func110,ok110⟩,⟨_,Tryd.func111,ok111⟩,⟨_,Tryd.func112,ok112⟩,trivial⟩
theorem fs_ok (g:Nat)(f:AFn)(h:fs g=some f):∃ fn,Tryd.prog.funcs[g]? = some fn∧okFn Tryd.prog 3 fn f=true:=by
 unfold fs at h
 cases e:fsL[g]? with
 |none=>simp [e] at h
 |some x=>
  simp only [e] at h
  subst h
  have:=AllL.get fs_all e
  rwa [Nat.zero_add] at this
theorem O1_sound:OSound Tryd.prog 3 O1:=fun g args h n fl v r he=>by
 by_cases hg:g=15
 ·subst hg
  unfold O1 at he
  rw [if_pos rfl] at he
  split at he
  ·rename_i hc
   obtain ⟨rfl,rfl,hG⟩:=hc
   have e0:hglb [(1,tab64)] 3=G0:=rfl
   have e1:=isT_of alive_true
   have f0:fs 15=some a15:=rfl
   have hP:Tryd.prog.follows .mixedOrders=true:=by kernel_rfl
   have e2:evV 3 O0 fs 200 12 15 [] h n (n+1)=some (.b true,none):=by
    rw [evV_frozen f0,hG]
    rw [evV_frozen f0,e0] at e1
    exact e1
   cases he
   exact OSound.evV hP O0_sound fs_ok 12 _ _ _ _ _ _ _ e2
  ·cases he
 ·rw [O1_of hg] at he
  exact O0_sound _ _ _ _ _ _ _ he
theorem fs1_ok (g:Nat)(f:AFn)(h:fs1 g=some f):∃ fn,Tryd.prog.funcs[g]? = some fn∧okFn Tryd.prog 3 fn f=true:=by
 unfold fs1 at h
 cases e:Nat.beq g 15 with
 |true=>rw [e] at h;cases h
 |false=>rw [e] at h;exact fs_ok g f h
theorem OV_sound (F D:Nat):OSound Tryd.prog 3 (OV F D):=OSound.evV (by kernel_rfl) O1_sound fs1_ok D
end Go.Proofs.YtbbikmfjnanpmaaDoor.Ab
