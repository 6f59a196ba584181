/- The oracle with the example as one word is sound: the example comes to true by the kernel's run of it. No condition. -/
import Derived.Test.YtchgkmdonhdfeaaGreatDoorN1
set_option linter.unusedSimpArgs false
set_option linter.unusedVariables false
set_option maxRecDepth 100000
namespace Go.Proofs.YtchgkmdonhdfeaaGreatDoor.Ab
open Go
theorem O1_sound (p:Bool):OSound Tryz.prog 3 (O1 p):=fun g args h n fl v r he=>by
 by_cases hg:g=12
 ·subst hg
  unfold O1 at he
  rw [if_pos rfl] at he
  split at he
  ·rename_i hc
   obtain ⟨_,rfl,rfl,hG⟩:=hc
   have e0:hglb [(1,tab64)] 3=G0:=rfl
   have e1:=isT_of alive_true
   have f0:fsz 12=some a12:=rfl
   have hP:Tryz.prog.follows .mixedOrders=true:=by kernel_rfl
   have e2:evV 3 Oz fsz 200 12 12 [] h n (n+1)=some (.b true,none):=by
    rw [evV_frozen f0,hG]
    rw [evV_frozen f0,e0] at e1
    exact e1
   cases he
   exact OSound.evV hP Oz_sound fsz_ok 12 _ _ _ _ _ _ _ e2
  ·cases he
 ·rw [O1_of hg] at he
  exact O0_sound _ _ _ _ _ _ _ he
theorem OV_sound (F D:Nat):OSound Tryz.prog 3 (OV F D):=OSound.evV (by kernel_rfl) (O1_sound _) fs1_ok D
end Go.Proofs.YtchgkmdonhdfeaaGreatDoor.Ab
