/- The search for a byte, and what the package's own example comes to. -/
import Derived.Test.YtchgkmdonhdfeaaGreatDoorB1
import Derived.Test.YtchgkmdonhdfeaaGreatDoorAD
import Derived.WalkKit
import Derived.Lib.Walk
import Derived.Lib.Bytealg
set_option linter.unusedSimpArgs false
set_option linter.unusedVariables false
set_option maxRecDepth 100000
namespace Go.Proofs.YtchgkmdonhdfeaaGreatDoor.Ab
open Go
def fsL:List (Option AFn):=[none,none,none,some a3,none,none,some a6,some a7,some a8,some a9,some a10,some a11,some a12,some a13,none,some a15,none,none,none,none,some a20,none,some a22,some a23,some a24,some a25,some a26,some a27,some a28,some a29,some a30,some a31,some a32,some a33,some a34,some a35,some a36,some a37,some a38,some a39,some a40,some a41,some a42,some a43,some a44,none,none,none,some a48,none,none,none,none,none,none,some a55,some a56,some a57,some a58,some a59,some a60,some a61,none,none,none,none,none,none,some a68,some a69,some a70,some a71,some a72,some a73,some a74,some a75,some a76,some a77,some a78,some a79,some a80,some a81,some a82,some a83,some a84,some a85,some a86,none,none,none,none,some a91,some a92,some a93,some a94,some a95,none,none,none,none,none,none,some a102,some a103,some a104,some a105,some a106,some a107,some a108,some a109,some a110,some a111,some a112,some a113,some a114,none,some a116,some a117,some a118,some a119,some a120,some a121,some a122,none,none,none,none,none,some a128,some a129,none,some a131,some a132,none,some a134,some a135,some a136,some a137,some a138,some a139,some a140,some a141,some a142,some a143,some a144,none,some a146,some a147,some a148,some a149,some a150,some a151,none,some a153,some a154]
def fs (g:Nat):Option AFn:=match fsL[g]? with|some x=>x|none=>none
def tab64:ABlk:=⟨false,false,0,1,[.i .u8 0,.i .u8 1,.i .u8 56,.i .u8 2,.i .u8 57,.i .u8 49,.i .u8 28,.i .u8 3,.i .u8 61,.i .u8 58,.i .u8 42,.i .u8 50,.i .u8 38,.i .u8 29,.i .u8 17,.i .u8 4,.i .u8 62,.i .u8 47,.i .u8 59,.i .u8 36,.i .u8 45,.i .u8 43,.i .u8 51,.i .u8 22,.i .u8 53,.i .u8 39,.i .u8 33,.i .u8 30,.i .u8 24,.i .u8 18,.i .u8 12,.i .u8 5,.i .u8 63,.i .u8 55,.i .u8 48,.i .u8 27,.i .u8 60,.i .u8 41,.i .u8 37,.i .u8 16,.i .u8 46,.i .u8 35,.i .u8 44,.i .u8 21,.i .u8 52,.i .u8 32,.i .u8 23,.i .u8 11,.i .u8 54,.i .u8 26,.i .u8 40,.i .u8 15,.i .u8 34,.i .u8 20,.i .u8 31,.i .u8 10,.i .u8 25,.i .u8 14,.i .u8 19,.i .u8 9,.i .u8 13,.i .u8 8,.i .u8 7,.i .u8 6]⟩
def O0:Orc:=fun g args h n fl=>match g,args with
 |152,[.s s,.i .u8 c]=>some (.i .i64 (Lib.indexByte s.data.toList c.toNat.toUInt8),none)
 |_,_=>none
theorem callIB (s:ByteArray)(c:Int)(w:World) :
  Calls Tryz.prog 152 #[.string s,.int .u8 c] w fun e w'=>e=.returned (.int .i64 (Lib.indexByte s.data.toList c.toNat.toUInt8))∧w'=w:=by
 go_enter Tryz.func152,Tryz.ntmps152
 go_wp2
 rw [run_callFunc_extern Tryz.func155 (by kernel_rfl) (by kernel_rfl) (by kernel_rfl) (e:=Extern.BytealgIndexByte.indexByte) (by kernel_rfl),Lib.run_indexByteString]
 simp only [Result.andThen]
 rw [Oper.upon_value]
 go_wp2
 go_ret
 exact ⟨rfl,rfl⟩
theorem O0_sound:OSound Tryz.prog 3 O0:=fun g args h n fl v r he=>by
 unfold O0 at he
 split at he
 ·rename_i s c
  simp only [Option.some.injEq,Prod.mk.injEq] at he
  obtain ⟨rfl,rfl⟩:=he
  refine ⟨⟨Tryz.f152,_,Tryz.func152,rfl,by kernel_rfl⟩,fun _=>⟨trivial,fun θ w cargs _ ha _=>?_⟩⟩
  simp only [VRels,VRel] at ha
  obtain ⟨v1,vs,e1,rfl,v2,vs2,rfl,rfl,rfl⟩:=ha
  have:cargs = #[.string s,.int .u8 c]:=by
   obtain ⟨l⟩:=cargs;simp at e1;rw [e1]
  subst this
  exact (callIB s c w).mono fun e w' ⟨h1,h2⟩=>⟨_,h1,θ.fz,Th.fle_refl θ,fun _ _ _ e=>.inl e,by simp only [VRel],by rw [h2];exact Chg.refl _ _⟩
 ·cases he
end Go.Proofs.YtchgkmdonhdfeaaGreatDoor.Ab
