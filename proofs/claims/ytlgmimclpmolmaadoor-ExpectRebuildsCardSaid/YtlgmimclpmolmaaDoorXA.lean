/- Nothing beside. -/
import Derived.Test.YtlgmimclpmolmaaDoorHd

/- Plain law: floats as words: what is a NaN and what is not; 'Ldexp' comes to a word; the same bits. No condition: lemmas only. -/
set_option maxRecDepth 100000
set_option linter.unusedVariables false
set_option linter.unusedSimpArgs false
namespace Go.Proofs.YtlgmimclpmolmaaDoor.Ab
open Go
theorem fnan_iff (x:BitVec 64):fNaN x=decide (2047*2 ^ 52<x.toNat % 2 ^ 63):=nan_iff x.toNat
theorem word_nn (neg:Bool)(r:Nat)(h:r≤FloatKind.f64.format.infRung):nanb (FloatKind.f64.format.word neg r)=false:=by
 have e2:FloatKind.f64.format.infRung=2047*2 ^ 52:=rfl
 have e:FloatKind.f64.format.signWeight=2 ^ 63:=rfl
 rw [e2] at h
 rw [nan_iff,decide_eq_false_iff_not]
 unfold Ieee.Format.word
 rw [e]
 cases neg with
 |false=>simp only [Bool.false_eq_true,if_false];omega
 |true=>simp only [if_true];omega
theorem write_nn:∀ d:Ieee.Datum,d.isNaN=false→nanb (FloatKind.f64.format.write d)=false
 | .number neg mag place,_=>by
  show nanb (FloatKind.f64.format.nearest neg mag place)=false
  unfold Ieee.Format.nearest
  split
  ·exact word_nn _ _ (Nat.zero_le _)
  ·exact word_nn _ _ (Nat.min_le_right _ _)
 | .infinity neg,_=>word_nn neg _ (Nat.le_refl _)
 | .nan neg fr,h=>by cases h
theorem fb_nn {o:Option Ieee.Datum}(hs:o.isSome=true)(hn:∀ d,o=some d→d.isNaN=false)(hl:∀ r,o.map FloatKind.f64.format.write=some r→r<2 ^ 64):fNaN (fb (o.map FloatKind.f64.format.write))=false:=by
 cases o with
 |none=>cases hs
 |some d=>
  have h1:=write_nn d (hn d rfl)
  have h2:=hl _ rfl
  rw [nan_iff,decide_eq_false_iff_not] at h1
  rw [fnan_iff,decide_eq_false_iff_not]
  show ¬ 2047*2 ^ 52<(BitVec.ofNat 64 (FloatKind.f64.format.write d)).toNat % 2 ^ 63
  rw [BitVec.toNat_ofNat]
  omega
theorem two52:FloatKind.f64.format.read (4841369599423283200#64).toNat=.number false 4503599627370496 0:=by rfl
theorem fMul_nn {x:BitVec 64}(h:fNaN x=false):fNaN (fMul x 4841369599423283200#64)=false:=by
 unfold fMul Ieee.Format.mul
 unfold fNaN at h
 have hl:∀ r,FloatKind.f64.format.mul x.toNat (4841369599423283200#64).toNat=some r→r<2 ^ 64:=fun r e=>FloatKind.f64.format.mul_lt e
 unfold Ieee.Format.mul at hl
 rw [two52] at hl ⊢
 cases e:FloatKind.f64.format.read x.toNat with
 |number s m i=>rw [e] at hl;exact fb_nn rfl (fun d q=>by cases q;rfl) hl
 |infinity s=>rw [e] at hl;exact fb_nn rfl (fun d q=>by cases q;rfl) hl
 |nan s f=>rw [e] at h;cases h
theorem ord_self {x:BitVec 64}(h:fNaN x=false):FloatKind.f64.format.order x.toNat x.toNat=some .eq:=by
 unfold Ieee.Format.order
 unfold fNaN at h
 cases e:FloatKind.f64.format.read x.toNat with
 |number s m i=>unfold Ieee.Datum.order;simp
 |infinity s=>unfold Ieee.Datum.order;simp
 |nan s f=>rw [e] at h;cases h
theorem neq_self (x:BitVec 64):fCmp .neq x x=fNaN x:=by
 cases h:fNaN x with
 |false=>unfold fCmp;rw [ord_self h];rfl
 |true=>unfold fCmp;rw [ord_nl h];rfl
theorem ldexp_is (x:BitVec 64)(k:Int):(Pmath_Ldexp x k).isSome=true:=by
 unfold Pmath_Ldexp Pmath_ldexp Pmath_IsNaN Pmath_Copysign
 rw [neq_self]
 cases h1:fCmp .eql x 0#64 with
 |true=>rfl
 |false=>
  cases h2:Pmath_IsInf x 0 with
  |true=>rfl
  |false=>
   cases h3:fNaN x with
   |true=>rfl
   |false=>
    simp only [cond_false]
    have hn:fNaN (Pmath_normalize x).1=false:=by
     unfold Pmath_normalize
     cases fCmp .lss (fAbs x) 4503599627370496#64 with
     |true=>exact fMul_nn h3
     |false=>exact h3
    have h0:fNaN 0#64=false:=by decide +kernel
    generalize Pmath_normalize x=q at hn ⊢
    obtain ⟨a,b⟩:=q
    simp only at hn ⊢
    rw [hn,h0]
    simp only [cond_false]
    generalize IntKind.i64.wrap (IntKind.i64.wrap (k+b)+IntKind.i64.wrap (bitop BinOp.and IntKind.i64 (a >>> 52).toInt 2047-1023))=e
    by_cases c1:e < -1075
    ·rw [if_pos c1];rfl
    ·rw [if_neg c1]
     by_cases c2:e>1023
     ·rw [if_pos c2];cases fCmp .lss a 0#64<;>rfl
     ·rw [if_neg c2]
      by_cases c3:e < -1022
      ·rw [if_pos c3];rfl
      ·rw [if_neg c3];rfl
theorem ldexp_some (x:BitVec 64)(k:Int):Pmath_Ldexp x k=some ((Pmath_Ldexp x k).getD 0#64):=by
 have:=ldexp_is x k
 cases h:Pmath_Ldexp x k with
 |none=>rw [h] at this;cases this
 |some r=>rfl
theorem r01bits (x:BitVec 64):Pref01_Bits64 x=some (fBits x):=by
 unfold Pref01_Bits64 fBits
 rw [neq_self]
 cases fNaN x<;>rfl
theorem same01 (x y:BitVec 64):Pref01_Same x y=some (decide (fBits x=fBits y)):=by
 unfold Pref01_Same
 rw [r01bits,r01bits]
theorem same03 (a b:BitVec 64):Pref03_Same a b a b=some true:=by
 unfold Pref03_Same
 rw [same01,same01,decide_eq_true rfl,decide_eq_true rfl]
 rfl
theorem same02 (x:BitVec 64):Pref02_Same x x=true:=decide_eq_true rfl
end Go.Proofs.YtlgmimclpmolmaaDoor.Ab
/- Plain law: the density matrix of a table and its purity, the program's word and the reference's; the law ExpectRebuilds. No condition but what an address space holds. -/
set_option maxRecDepth 100000
set_option linter.unusedVariables false
set_option linter.unusedSimpArgs false
namespace Go.Proofs.YtlgmimclpmolmaaDoor.Ab
open Go
abbrev Zs:=S57
theorem wrp {n:Int}(h:-9223372036854775808≤n∧n≤9223372036854775807):IntKind.i64.wrap n=n:=wrap_of ⟨by omega,by omega⟩
theorem idxN {α:Type}{l:List α}{i:Nat}(h:i<l.length):idx l (i:Int)=some l[i]:=by
 unfold idx
 simp [h]
def qn (len:Nat):Int:=if len=1 then 0 else if len=4 then 1 else if len=16 then 2 else if len=64 then 3 else if len=256 then 4 else if len=1024 then 5 else -1
theorem PQ (t:List (BitVec 64))(f:Nat){v w c:Int}(h1:v<6)(h2:¬ IntKind.i64.wrap (2*v)<0)(h3:IntKind.i64.wrap (1*2 ^ (min (IntKind.i64.wrap (2*v)).toNat 64))=c)(h4:IntKind.i64.wrap (v+1)=w) :
  Pexpect_qubitsL0 t (f+1) v=if (t.length:Int)=c then some (.inl v) else Pexpect_qubitsL0 t f w:=by
 conv=>lhs;unfold Pexpect_qubitsL0
 rw [if_pos h1,if_neg h2,h3,h4]
theorem P_qubits (F:Nat)(hF:7≤F)(t:List (BitVec 64)):Pexpect_qubits F t=some (qn t.length):=by
 obtain ⟨f,rfl⟩:∃ f,F=f+7:=⟨F-7,by omega⟩
 unfold Pexpect_qubits
 rw [PQ t (f+6) (v:=0) (w:=1) (c:=1) (by decide) (by decide +kernel) (by decide +kernel) (by decide +kernel),PQ t (f+5) (v:=1) (w:=2) (c:=4) (by decide) (by decide +kernel) (by decide +kernel) (by decide +kernel),
  PQ t (f+4) (v:=2) (w:=3) (c:=16) (by decide) (by decide +kernel) (by decide +kernel) (by decide +kernel),PQ t (f+3) (v:=3) (w:=4) (c:=64) (by decide) (by decide +kernel) (by decide +kernel) (by decide +kernel),
  PQ t (f+2) (v:=4) (w:=5) (c:=256) (by decide) (by decide +kernel) (by decide +kernel) (by decide +kernel),PQ t (f+1) (v:=5) (w:=6) (c:=1024) (by decide) (by decide +kernel) (by decide +kernel) (by decide +kernel)]
 have e:Pexpect_qubitsL0 t (f+1) 6=some (.inr ()):=rfl
 rw [e]
 unfold qn
 by_cases c0:t.length=1
 ·rw [if_pos c0,if_pos (by omega)]
 rw [if_neg c0,if_neg (by omega)]
 by_cases c1:t.length=4
 ·rw [if_pos c1,if_pos (by omega)]
 rw [if_neg c1,if_neg (by omega)]
 by_cases c2:t.length=16
 ·rw [if_pos c2,if_pos (by omega)]
 rw [if_neg c2,if_neg (by omega)]
 by_cases c3:t.length=64
 ·rw [if_pos c3,if_pos (by omega)]
 rw [if_neg c3,if_neg (by omega)]
 by_cases c4:t.length=256
 ·rw [if_pos c4,if_pos (by omega)]
 rw [if_neg c4,if_neg (by omega)]
 by_cases c5:t.length=1024
 ·rw [if_pos c5,if_pos (by omega)]
 rw [if_neg c5,if_neg (by omega)]
theorem RQ (l:Int)(f:Nat){v w c:Int}(h1:v≤5)(h3:IntKind.i64.wrap (1*2 ^ (min (U (BitVec.ofInt 64 (IntKind.i64.wrap (2*v)))).toNat 64))=c)(h4:IntKind.i64.wrap (v+1)=w) :
  Pref22_sideL0 l (f+1) v=if l=c then some (.inl v) else Pref22_sideL0 l f w:=by
 conv=>lhs;unfold Pref22_sideL0
 rw [if_pos h1,h3,h4]
theorem R_side (F:Nat)(hF:7≤F)(n:Nat):Pref22_side F (n:Int)=some (qn n):=by
 obtain ⟨f,rfl⟩:∃ f,F=f+7:=⟨F-7,by omega⟩
 unfold Pref22_side
 rw [RQ n (f+6) (v:=0) (w:=1) (c:=1) (by decide) (by decide +kernel) (by decide +kernel),RQ n (f+5) (v:=1) (w:=2) (c:=4) (by decide) (by decide +kernel) (by decide +kernel),
  RQ n (f+4) (v:=2) (w:=3) (c:=16) (by decide) (by decide +kernel) (by decide +kernel),RQ n (f+3) (v:=3) (w:=4) (c:=64) (by decide) (by decide +kernel) (by decide +kernel),
  RQ n (f+2) (v:=4) (w:=5) (c:=256) (by decide) (by decide +kernel) (by decide +kernel),RQ n (f+1) (v:=5) (w:=6) (c:=1024) (by decide) (by decide +kernel) (by decide +kernel)]
 have e:Pref22_sideL0 n (f+1) 6=some (.inr ()):=rfl
 rw [e]
 unfold qn
 by_cases c0:n=1
 ·rw [if_pos c0,if_pos (by omega)]
 rw [if_neg c0,if_neg (by omega)]
 by_cases c1:n=4
 ·rw [if_pos c1,if_pos (by omega)]
 rw [if_neg c1,if_neg (by omega)]
 by_cases c2:n=16
 ·rw [if_pos c2,if_pos (by omega)]
 rw [if_neg c2,if_neg (by omega)]
 by_cases c3:n=64
 ·rw [if_pos c3,if_pos (by omega)]
 rw [if_neg c3,if_neg (by omega)]
 by_cases c4:n=256
 ·rw [if_pos c4,if_pos (by omega)]
 rw [if_neg c4,if_neg (by omega)]
 by_cases c5:n=1024
 ·rw [if_pos c5,if_pos (by omega)]
 rw [if_neg c5,if_neg (by omega)]
theorem qn_cases (len:Nat):qn len = -1∨∃ n:Nat,n≤5∧qn len=n∧len=2 ^ n*2 ^ n:=by
 unfold qn
 by_cases c0:len=1
 ·rw [if_pos c0];exact .inr ⟨0,by decide,rfl,c0⟩
 rw [if_neg c0]
 by_cases c1:len=4
 ·rw [if_pos c1];exact .inr ⟨1,by decide,rfl,c1⟩
 rw [if_neg c1]
 by_cases c2:len=16
 ·rw [if_pos c2];exact .inr ⟨2,by decide,rfl,c2⟩
 rw [if_neg c2]
 by_cases c3:len=64
 ·rw [if_pos c3];exact .inr ⟨3,by decide,rfl,c3⟩
 rw [if_neg c3]
 by_cases c4:len=256
 ·rw [if_pos c4];exact .inr ⟨4,by decide,rfl,c4⟩
 rw [if_neg c4]
 by_cases c5:len=1024
 ·rw [if_pos c5];exact .inr ⟨5,by decide,rfl,c5⟩
 rw [if_neg c5];exact .inl rfl
theorem side_p {n:Nat}(h:n≤5):IntKind.i64.wrap (1*2 ^ (min (n:Int).toNat 64))=((2 ^ n:Nat):Int)∧IntKind.i64.wrap (1*2 ^ (min (U (BitVec.ofInt 64 (n:Int))).toNat 64))=((2 ^ n:Nat):Int)∧2 ^ n≤32:=by
 have:n=0∨n=1∨n=2∨n=3∨n=4∨n=5:=by omega
 rcases this with rfl|rfl|rfl|rfl|rfl|rfl<;>decide +kernel
def okAB (a b:Nat):Bool:=decide (bitop .xor .i64 (a:Int) (b:Int)=((a ^^^ b:Nat):Int))&&decide (Pref22_commonL0 8 0 (bitop .and .i64 (a:Int) (b:Int))=some (Pexpect_Rebuild_1 (a:Int) (b:Int)))&&decide (0≤Pexpect_Rebuild_1 (a:Int) (b:Int))&&decide (Pexpect_Rebuild_1 (a:Int) (b:Int)≤5)
theorem chk32:((List.range 32).all fun a=>(List.range 32).all fun b=>okAB a b)=true:=by decide +kernel
theorem at32 {a b:Nat}(ha:a<32)(hb:b<32):bitop .xor .i64 (a:Int) (b:Int)=((a ^^^ b:Nat):Int)∧Pref22_commonL0 8 0 (bitop .and .i64 (a:Int) (b:Int))=some (Pexpect_Rebuild_1 (a:Int) (b:Int))∧0≤Pexpect_Rebuild_1 (a:Int) (b:Int)∧Pexpect_Rebuild_1 (a:Int) (b:Int)≤5:=by
 have h:=List.all_eq_true.1 (List.all_eq_true.1 chk32 a (List.mem_range.2 ha)) b (List.mem_range.2 hb)
 unfold okAB at h
 simp only [Bool.and_eq_true,decide_eq_true_eq] at h
 exact ⟨h.1.1.1,h.1.1.2,h.1.2,h.2⟩
theorem com_fuel:∀ (f g:Nat) (a b r:Int),Pref22_commonL0 f a b=some r→f≤g→Pref22_commonL0 g a b=some r
 |0,_,_,_,_,h,_=>by cases h
 |f+1,0,_,_,_,_,h=>by omega
 |f+1,g+1,a,b,r,h,hg=>by
  unfold Pref22_commonL0 at h ⊢
  by_cases c:b>0
  ·rw [if_pos c] at h ⊢;exact com_fuel f g _ _ _ h (by omega)
  ·rw [if_neg c] at h ⊢;exact h
theorem R_com {F:Nat}(hF:8≤F){a b:Nat}(ha:a<32)(hb:b<32):Pref22_common F (a:Int) (b:Int)=some (Pexpect_Rebuild_1 (a:Int) (b:Int)):=by
 unfold Pref22_common
 rw [com_fuel 8 F _ _ _ (at32 ha hb).2.1 hF]
def pwr (r c z:Nat):Int:=Pexpect_Rebuild_1 ((r ^^^ c:Nat):Int) (z:Int)+2*Pexpect_Rebuild_1 (c:Int) (z:Int)
def turnZ (x:BitVec 64)(k:Int):Cpx:=⟨(Pplane_Turn x 0#64 k).1,(Pplane_Turn x 0#64 k).2⟩
theorem P_turn (x:BitVec 64)(k:Int):Pplane_Turn x 0#64 k=((turnZ x k).re,(turnZ x k).im):=rfl
theorem turn_same (a b:BitVec 64){k:Int}(h0:0≤k)(h1:k≤15):Pref03_Turn a b k=some (Pplane_Turn a b k):=by
 have:k=0∨k=1∨k=2∨k=3∨k=4∨k=5∨k=6∨k=7∨k=8∨k=9∨k=10∨k=11∨k=12∨k=13∨k=14∨k=15:=by omega
 rcases this with rfl|rfl|rfl|rfl|rfl|rfl|rfl|rfl|rfl|rfl|rfl|rfl|rfl|rfl|rfl|rfl<;>rfl
theorem R_turn (x:BitVec 64){k:Int}(h0:0≤k)(h1:k≤15):Pref03_Turn x 0#64 k=some ((turnZ x k).re,(turnZ x k).im):=turn_same x 0#64 h0 h1
def trm (t:List (BitVec 64))(s r c z:Nat):Cpx:=turnZ (t[(r ^^^ c)+s*z]?.getD 0#64) (pwr r c z)
def rowT (t:List (BitVec 64))(s r c:Nat):Nat→Nat→List Cpx
 |0,_=>[]
 |m+1,z=>trm t s r c z::rowT t s r c m (z+1)
theorem rowT_len (t:List (BitVec 64))(s r c:Nat):∀ m z,(rowT t s r c m z).length=m
 |0,_=>rfl
 |m+1,z=>by rw [rowT,List.length_cons,rowT_len t s r c m (z+1)]
def toZ (p:Cpx):Zs:=⟨p.re,p.im⟩
structure Sz (t:List (BitVec 64)) (s r c:Nat):Prop where
 s32:s≤32
 lr:r<s
 lc:c<s
 lx:(r ^^^ c)<s
 len:t.length=s*s
theorem Sz.place {t:List (BitVec 64)}{s r c:Nat}(h:Sz t s r c){z:Nat}(hz:z<s) :
  idx t (IntKind.i64.wrap (((r ^^^ c:Nat):Int)+IntKind.i64.wrap ((s:Int)*(z:Int))))=some (t[(r ^^^ c)+s*z]?.getD 0#64):=by
 have h1:s*z+s≤s*s:=by
  have:=Nat.mul_le_mul_left s (show z+1≤s by omega)
  rw [Nat.mul_add,Nat.mul_one] at this;exact this
 have h2:s*s≤32*32:=Nat.mul_le_mul h.s32 h.s32
 have h3:=h.lx
 have e1:(s:Int)*(z:Int)=((s*z:Nat):Int):=by rw [Int.natCast_mul]
 rw [e1,wrp (n:=((s*z:Nat):Int)) ⟨by omega,by omega⟩,wrp (n:=((r ^^^ c:Nat):Int)+((s*z:Nat):Int)) ⟨by omega,by omega⟩]
 have e2:((r ^^^ c:Nat):Int)+((s*z:Nat):Int)=(((r ^^^ c)+s*z:Nat):Int):=by omega
 have h4:(r ^^^ c)+s*z<t.length:=by rw [h.len];omega
 rw [e2,idxN h4,List.getElem?_eq_getElem h4]
 rfl
theorem Sz.pw {t:List (BitVec 64)}{s r c:Nat}(h:Sz t s r c){z:Nat}(hz:z<s):0≤pwr r c z∧pwr r c z≤15∧IntKind.i64.wrap (Pexpect_Rebuild_1 ((r ^^^ c:Nat):Int) (z:Int)+IntKind.i64.wrap ((2:Int)*Pexpect_Rebuild_1 (c:Int) (z:Int)))=pwr r c z:=by
 have q:=h.s32
 have a:=(at32 (a:=r ^^^ c) (b:=z) (by have:=h.lx;omega) (by omega)).2.2
 have b:=(at32 (a:=c) (b:=z) (by have:=h.lc;omega) (by omega)).2.2
 unfold pwr
 refine ⟨by omega,by omega,?_⟩
 rw [wrp (n:=2*Pexpect_Rebuild_1 (c:Int) (z:Int)) ⟨by omega,by omega⟩,wrp ⟨by omega,by omega⟩]
theorem P0 (t:List (BitVec 64))(n:Int)(s r c:Nat)(h:Sz t s r c)(v6 v7 v8 v9 v12 v13:Int):∀ (f m z:Nat) (acc:List Cpx),z+m=s→m<f→acc.length=z→
  Pexpect_RebuildL0 f t n (s:Int) (r:Int) (c:Int) ((r ^^^ c:Nat):Int) v6 v7 v8 v9 (s:Int) (z:Int) v12 v13 acc=some (.inr (t,n,(s:Int),(r:Int),v6,v7,v8,v9,v12,v13,acc++rowT t s r c m z))
 |0,m,z,acc,_,hm,_=>by omega
 |f+1,m,z,acc,e,hm,ha=>by
  unfold Pexpect_RebuildL0
  cases m with
  |zero=>rw [if_neg (by omega),rowT,List.append_nil]
  |succ m=>
   have hz:z<s:=by omega
   have ih:=P0 t n s r c h v6 v7 v8 v9 v12 v13 f m (z+1) (acc++[trm t s r c z]) (by omega) (by omega) (by rw [List.length_append];simp [ha])
   rw [if_pos (by omega),h.place hz]
   obtain ⟨_,_,e3⟩:=h.pw hz
   have q:=h.s32
   simp only [e3,P_turn]
   rw [if_pos (by omega),wrp (n:=(z:Int)+1) ⟨by omega,by omega⟩,show (z:Int)+1=((z+1:Nat):Int) by omega]
   rw [rowT,show acc++trm t s r c z::rowT t s r c m (z+1)=(acc++[trm t s r c z])++rowT t s r c m (z+1) by rw [List.append_assoc];rfl]
   exact ih
theorem P1 (t:List (BitVec 64))(n:Int)(s r c:Nat)(h:Sz t s r c)(v6 v7 v8 v9 v12 v13:Int)(f:Nat)(hf:s<f) :
  Pexpect_RebuildL1 f t n (s:Int) (r:Int) (c:Int) ((r ^^^ c:Nat):Int) v6 v7 v8 v9 (s:Int) 0 v12 v13=some (.inr (t,n,(s:Int),(r:Int),v6,v7,v8,v9,v12,v13,rowT t s r c s 0)):=by
 obtain ⟨f,rfl⟩:∃ g,f=g+1:=⟨f-1,by omega⟩
 obtain ⟨m,rfl⟩:∃ m,s=m+1:=⟨s-1,by have:=h.lr;omega⟩
 unfold Pexpect_RebuildL1
 dsimp only
 have ih:=P0 t n (m+1) r c h v6 v7 v8 v9 v12 v13 f m 1 [trm t (m+1) r c 0] (by omega) (by omega) rfl
 have pl:=h.place (z:=0) (by omega)
 rw [show ((0:Nat):Int)=0 from rfl] at pl
 rw [if_pos (by omega),pl]
 obtain ⟨_,_,e3⟩:=h.pw (z:=0) (by omega)
 rw [show ((0:Nat):Int)=0 from rfl] at e3
 simp only [e3,P_turn]
 rw [wrp (n:=(0:Int)+1) ⟨by omega,by omega⟩,show (0:Int)+1=((1:Nat):Int) by omega]
 exact ih
theorem P2 (t:List (BitVec 64))(n:Int)(s r c:Nat)(h:Sz t s r c)(v6 v7 v8 v9 v12 v13:Int)(w:List Cpx):∀ (f m z:Nat) (acc:List Cpx),z+m=s→m<f→acc.length=z→
  Pexpect_RebuildL2 f t n (s:Int) (r:Int) (c:Int) ((r ^^^ c:Nat):Int) v6 v7 v8 v9 (s:Int) (z:Int) v12 v13 acc w=some (.inr (t,n,(s:Int),(r:Int),v6,v7,v8,v9,v12,v13,acc++rowT t s r c m z,w))
 |0,m,z,acc,_,hm,_=>by omega
 |f+1,m,z,acc,e,hm,ha=>by
  unfold Pexpect_RebuildL2
  cases m with
  |zero=>rw [if_neg (by omega),rowT,List.append_nil]
  |succ m=>
   have hz:z<s:=by omega
   have ih:=P2 t n s r c h v6 v7 v8 v9 v12 v13 w f m (z+1) (acc++[trm t s r c z]) (by omega) (by omega) (by rw [List.length_append];simp [ha])
   rw [if_pos (by omega),h.place hz]
   obtain ⟨_,_,e3⟩:=h.pw hz
   have q:=h.s32
   simp only [e3,P_turn]
   rw [if_pos (by omega),wrp (n:=(z:Int)+1) ⟨by omega,by omega⟩,show (z:Int)+1=((z+1:Nat):Int) by omega]
   rw [rowT,show acc++trm t s r c z::rowT t s r c m (z+1)=(acc++[trm t s r c z])++rowT t s r c m (z+1) by rw [List.append_assoc];rfl]
   exact ih
theorem P3 (t:List (BitVec 64))(n:Int)(s r c:Nat)(h:Sz t s r c)(v6 v7 v8 v9 v12 v13:Int)(w:List Cpx)(f:Nat)(hf:s<f) :
  Pexpect_RebuildL3 f t n (s:Int) (r:Int) (c:Int) ((r ^^^ c:Nat):Int) v6 v7 v8 v9 (s:Int) 0 v12 v13 w=some (.inr (t,n,(s:Int),(r:Int),v6,v7,v8,v9,v12,v13,rowT t s r c s 0,w)):=by
 obtain ⟨f,rfl⟩:∃ g,f=g+1:=⟨f-1,by omega⟩
 obtain ⟨m,rfl⟩:∃ m,s=m+1:=⟨s-1,by have:=h.lr;omega⟩
 unfold Pexpect_RebuildL3
 dsimp only
 have ih:=P2 t n (m+1) r c h v6 v7 v8 v9 v12 v13 w f m 1 [trm t (m+1) r c 0] (by omega) (by omega) rfl
 have pl:=h.place (z:=0) (by omega)
 rw [show ((0:Nat):Int)=0 from rfl] at pl
 rw [if_pos (by omega),pl]
 obtain ⟨_,_,e3⟩:=h.pw (z:=0) (by omega)
 rw [show ((0:Nat):Int)=0 from rfl] at e3
 simp only [e3,P_turn]
 rw [wrp (n:=(0:Int)+1) ⟨by omega,by omega⟩,show (0:Int)+1=((1:Nat):Int) by omega]
 exact ih
theorem P6 (t:List (BitVec 64))(n:Int)(s r c:Nat)(h:Sz t s r c)(v6 v7 v8 v9 v12 v13:Int)(w:List Cpx):∀ (f m z:Nat) (acc:List Cpx),z+m=s→m<f→acc.length=z→
  Pexpect_RebuildL6 f t n (s:Int) (r:Int) (c:Int) ((r ^^^ c:Nat):Int) v6 v7 v8 v9 (s:Int) (z:Int) v12 v13 acc w=some (.inr (t,n,(s:Int),(r:Int),v6,v7,v8,v9,v12,v13,acc++rowT t s r c m z,w))
 |0,m,z,acc,_,hm,_=>by omega
 |f+1,m,z,acc,e,hm,ha=>by
  unfold Pexpect_RebuildL6
  cases m with
  |zero=>rw [if_neg (by omega),rowT,List.append_nil]
  |succ m=>
   have hz:z<s:=by omega
   have ih:=P6 t n s r c h v6 v7 v8 v9 v12 v13 w f m (z+1) (acc++[trm t s r c z]) (by omega) (by omega) (by rw [List.length_append];simp [ha])
   rw [if_pos (by omega),h.place hz]
   obtain ⟨_,_,e3⟩:=h.pw hz
   have q:=h.s32
   simp only [e3,P_turn]
   rw [if_pos (by omega),wrp (n:=(z:Int)+1) ⟨by omega,by omega⟩,show (z:Int)+1=((z+1:Nat):Int) by omega]
   rw [rowT,show acc++trm t s r c z::rowT t s r c m (z+1)=(acc++[trm t s r c z])++rowT t s r c m (z+1) by rw [List.append_assoc];rfl]
   exact ih
theorem P7 (t:List (BitVec 64))(n:Int)(s r c:Nat)(h:Sz t s r c)(v6 v7 v8 v9 v12 v13:Int)(w:List Cpx)(f:Nat)(hf:s<f) :
  Pexpect_RebuildL7 f t n (s:Int) (r:Int) (c:Int) ((r ^^^ c:Nat):Int) v6 v7 v8 v9 (s:Int) 0 v12 v13 w=some (.inr (t,n,(s:Int),(r:Int),v6,v7,v8,v9,v12,v13,rowT t s r c s 0,w)):=by
 obtain ⟨f,rfl⟩:∃ g,f=g+1:=⟨f-1,by omega⟩
 obtain ⟨m,rfl⟩:∃ m,s=m+1:=⟨s-1,by have:=h.lr;omega⟩
 unfold Pexpect_RebuildL7
 dsimp only
 have ih:=P6 t n (m+1) r c h v6 v7 v8 v9 v12 v13 w f m 1 [trm t (m+1) r c 0] (by omega) (by omega) rfl
 have pl:=h.place (z:=0) (by omega)
 rw [show ((0:Nat):Int)=0 from rfl] at pl
 rw [if_pos (by omega),pl]
 obtain ⟨_,_,e3⟩:=h.pw (z:=0) (by omega)
 rw [show ((0:Nat):Int)=0 from rfl] at e3
 simp only [e3,P_turn]
 rw [wrp (n:=(0:Int)+1) ⟨by omega,by omega⟩,show (0:Int)+1=((1:Nat):Int) by omega]
 exact ih
theorem R0 (F:Nat)(hF:8≤F)(t:List (BitVec 64))(n:Int)(s r c:Nat)(h:Sz t s r c)(v6 v7:Int):∀ (f m z:Nat) (acc:List Zs),z+m=s→m<f→acc.length=z→
  Pref22_RebuildL0 F f t n (s:Int) (r:Int) (c:Int) (z:Int) v6 v7 acc=some (.inr (t,n,(s:Int),(r:Int),(c:Int),v6,v7,acc++(rowT t s r c m z).map toZ))
 |0,m,z,acc,_,hm,_=>by omega
 |f+1,m,z,acc,e,hm,ha=>by
  unfold Pref22_RebuildL0
  have q:=h.s32
  have hr:=h.lr
  have hc:=h.lc
  have hx:=h.lx
  rw [(at32 (a:=r) (b:=c) (by omega) (by omega)).1]
  cases m with
  |zero=>rw [if_neg (by omega),rowT,List.map_nil,List.append_nil]
  |succ m=>
   have hz:z<s:=by omega
   have ih:=R0 F hF t n s r c h v6 v7 f m (z+1) (acc++[toZ (trm t s r c z)]) (by omega) (by omega) (by rw [List.length_append];simp [ha])
   rw [if_pos (by omega),h.place hz,R_com hF (a:=r ^^^ c) (b:=z) (by omega) (by omega),R_com hF (a:=c) (b:=z) (by omega) (by omega)]
   obtain ⟨e1,e2,e3⟩:=h.pw hz
   simp only [e3,R_turn _ e1 e2]
   rw [if_pos (by omega),wrp (n:=(z:Int)+1) ⟨by omega,by omega⟩,show (z:Int)+1=((z+1:Nat):Int) by omega]
   rw [rowT,List.map_cons,show acc++toZ (trm t s r c z)::(rowT t s r c m (z+1)).map toZ=(acc++[toZ (trm t s r c z)])++(rowT t s r c m (z+1)).map toZ by rw [List.append_assoc];rfl]
   exact ih
theorem R1 (F:Nat)(hF:8≤F)(t:List (BitVec 64))(n:Int)(s r c:Nat)(h:Sz t s r c)(v6 v7:Int)(f:Nat)(hf:s<f) :
  Pref22_RebuildL1 F f t n (s:Int) (r:Int) (c:Int) 0 v6 v7=some (.inr (t,n,(s:Int),(r:Int),(c:Int),v6,v7,(rowT t s r c s 0).map toZ)):=by
 obtain ⟨f,rfl⟩:∃ g,f=g+1:=⟨f-1,by omega⟩
 have q:=h.s32
 have hr:=h.lr
 have hc:=h.lc
 have hx:=h.lx
 obtain ⟨m,rfl⟩:∃ m,s=m+1:=⟨s-1,by omega⟩
 unfold Pref22_RebuildL1
 dsimp only
 rw [(at32 (a:=r) (b:=c) (by omega) (by omega)).1]
 have ih:=R0 F hF t n (m+1) r c h v6 v7 f m 1 [toZ (trm t (m+1) r c 0)] (by omega) (by omega) rfl
 have pl:=h.place (z:=0) (by omega)
 rw [show ((0:Nat):Int)=0 from rfl] at pl
 have c1:=R_com hF (a:=r ^^^ c) (b:=0) (by omega) (by omega)
 have c2:=R_com hF (a:=c) (b:=0) (by omega) (by omega)
 rw [show ((0:Nat):Int)=0 from rfl] at c1 c2
 rw [if_pos (by omega),pl,c1,c2]
 obtain ⟨e1,e2,e3⟩:=h.pw (z:=0) (by omega)
 rw [show ((0:Nat):Int)=0 from rfl] at e3
 simp only [e3,R_turn _ e1 e2]
 rw [wrp (n:=(0:Int)+1) ⟨by omega,by omega⟩,show (0:Int)+1=((1:Nat):Int) by omega]
 exact ih
theorem R2 (F:Nat)(hF:8≤F)(t:List (BitVec 64))(n:Int)(s r c:Nat)(h:Sz t s r c)(v6 v7:Int)(w:List Zs):∀ (f m z:Nat) (acc:List Zs),z+m=s→m<f→acc.length=z→
  Pref22_RebuildL2 F f t n (s:Int) (r:Int) (c:Int) (z:Int) v6 v7 acc w=some (.inr (t,n,(s:Int),(r:Int),(c:Int),v6,v7,acc++(rowT t s r c m z).map toZ,w))
 |0,m,z,acc,_,hm,_=>by omega
 |f+1,m,z,acc,e,hm,ha=>by
  unfold Pref22_RebuildL2
  have q:=h.s32
  have hr:=h.lr
  have hc:=h.lc
  have hx:=h.lx
  rw [(at32 (a:=r) (b:=c) (by omega) (by omega)).1]
  cases m with
  |zero=>rw [if_neg (by omega),rowT,List.map_nil,List.append_nil]
  |succ m=>
   have hz:z<s:=by omega
   have ih:=R2 F hF t n s r c h v6 v7 w f m (z+1) (acc++[toZ (trm t s r c z)]) (by omega) (by omega) (by rw [List.length_append];simp [ha])
   rw [if_pos (by omega),h.place hz,R_com hF (a:=r ^^^ c) (b:=z) (by omega) (by omega),R_com hF (a:=c) (b:=z) (by omega) (by omega)]
   obtain ⟨e1,e2,e3⟩:=h.pw hz
   simp only [e3,R_turn _ e1 e2]
   rw [if_pos (by omega),wrp (n:=(z:Int)+1) ⟨by omega,by omega⟩,show (z:Int)+1=((z+1:Nat):Int) by omega]
   rw [rowT,List.map_cons,show acc++toZ (trm t s r c z)::(rowT t s r c m (z+1)).map toZ=(acc++[toZ (trm t s r c z)])++(rowT t s r c m (z+1)).map toZ by rw [List.append_assoc];rfl]
   exact ih
theorem R3 (F:Nat)(hF:8≤F)(t:List (BitVec 64))(n:Int)(s r c:Nat)(h:Sz t s r c)(v6 v7:Int)(w:List Zs)(f:Nat)(hf:s<f) :
  Pref22_RebuildL3 F f t n (s:Int) (r:Int) (c:Int) 0 v6 v7 w=some (.inr (t,n,(s:Int),(r:Int),(c:Int),v6,v7,(rowT t s r c s 0).map toZ,w)):=by
 obtain ⟨f,rfl⟩:∃ g,f=g+1:=⟨f-1,by omega⟩
 have q:=h.s32
 have hr:=h.lr
 have hc:=h.lc
 have hx:=h.lx
 obtain ⟨m,rfl⟩:∃ m,s=m+1:=⟨s-1,by omega⟩
 unfold Pref22_RebuildL3
 dsimp only
 rw [(at32 (a:=r) (b:=c) (by omega) (by omega)).1]
 have ih:=R2 F hF t n (m+1) r c h v6 v7 w f m 1 [toZ (trm t (m+1) r c 0)] (by omega) (by omega) rfl
 have pl:=h.place (z:=0) (by omega)
 rw [show ((0:Nat):Int)=0 from rfl] at pl
 have c1:=R_com hF (a:=r ^^^ c) (b:=0) (by omega) (by omega)
 have c2:=R_com hF (a:=c) (b:=0) (by omega) (by omega)
 rw [show ((0:Nat):Int)=0 from rfl] at c1 c2
 rw [if_pos (by omega),pl,c1,c2]
 obtain ⟨e1,e2,e3⟩:=h.pw (z:=0) (by omega)
 rw [show ((0:Nat):Int)=0 from rfl] at e3
 simp only [e3,R_turn _ e1 e2]
 rw [wrp (n:=(0:Int)+1) ⟨by omega,by omega⟩,show (0:Int)+1=((1:Nat):Int) by omega]
 exact ih
theorem R6 (F:Nat)(hF:8≤F)(t:List (BitVec 64))(n:Int)(s r c:Nat)(h:Sz t s r c)(v6 v7:Int)(w:List Zs):∀ (f m z:Nat) (acc:List Zs),z+m=s→m<f→acc.length=z→
  Pref22_RebuildL6 F f t n (s:Int) (r:Int) (c:Int) (z:Int) v6 v7 acc w=some (.inr (t,n,(s:Int),(r:Int),(c:Int),v6,v7,acc++(rowT t s r c m z).map toZ,w))
 |0,m,z,acc,_,hm,_=>by omega
 |f+1,m,z,acc,e,hm,ha=>by
  unfold Pref22_RebuildL6
  have q:=h.s32
  have hr:=h.lr
  have hc:=h.lc
  have hx:=h.lx
  rw [(at32 (a:=r) (b:=c) (by omega) (by omega)).1]
  cases m with
  |zero=>rw [if_neg (by omega),rowT,List.map_nil,List.append_nil]
  |succ m=>
   have hz:z<s:=by omega
   have ih:=R6 F hF t n s r c h v6 v7 w f m (z+1) (acc++[toZ (trm t s r c z)]) (by omega) (by omega) (by rw [List.length_append];simp [ha])
   rw [if_pos (by omega),h.place hz,R_com hF (a:=r ^^^ c) (b:=z) (by omega) (by omega),R_com hF (a:=c) (b:=z) (by omega) (by omega)]
   obtain ⟨e1,e2,e3⟩:=h.pw hz
   simp only [e3,R_turn _ e1 e2]
   rw [if_pos (by omega),wrp (n:=(z:Int)+1) ⟨by omega,by omega⟩,show (z:Int)+1=((z+1:Nat):Int) by omega]
   rw [rowT,List.map_cons,show acc++toZ (trm t s r c z)::(rowT t s r c m (z+1)).map toZ=(acc++[toZ (trm t s r c z)])++(rowT t s r c m (z+1)).map toZ by rw [List.append_assoc];rfl]
   exact ih
theorem R7 (F:Nat)(hF:8≤F)(t:List (BitVec 64))(n:Int)(s r c:Nat)(h:Sz t s r c)(v6 v7:Int)(w:List Zs)(f:Nat)(hf:s<f) :
  Pref22_RebuildL7 F f t n (s:Int) (r:Int) (c:Int) 0 v6 v7 w=some (.inr (t,n,(s:Int),(r:Int),(c:Int),v6,v7,(rowT t s r c s 0).map toZ,w)):=by
 obtain ⟨f,rfl⟩:∃ g,f=g+1:=⟨f-1,by omega⟩
 have q:=h.s32
 have hr:=h.lr
 have hc:=h.lc
 have hx:=h.lx
 obtain ⟨m,rfl⟩:∃ m,s=m+1:=⟨s-1,by omega⟩
 unfold Pref22_RebuildL7
 dsimp only
 rw [(at32 (a:=r) (b:=c) (by omega) (by omega)).1]
 have ih:=R6 F hF t n (m+1) r c h v6 v7 w f m 1 [toZ (trm t (m+1) r c 0)] (by omega) (by omega) rfl
 have pl:=h.place (z:=0) (by omega)
 rw [show ((0:Nat):Int)=0 from rfl] at pl
 have c1:=R_com hF (a:=r ^^^ c) (b:=0) (by omega) (by omega)
 have c2:=R_com hF (a:=c) (b:=0) (by omega) (by omega)
 rw [show ((0:Nat):Int)=0 from rfl] at c1 c2
 rw [if_pos (by omega),pl,c1,c2]
 obtain ⟨e1,e2,e3⟩:=h.pw (z:=0) (by omega)
 rw [show ((0:Nat):Int)=0 from rfl] at e3
 simp only [e3,R_turn _ e1 e2]
 rw [wrp (n:=(0:Int)+1) ⟨by omega,by omega⟩,show (0:Int)+1=((1:Nat):Int) by omega]
 exact ih
def foldZ:List Cpx→BitVec 64→BitVec 64→Cpx
 | [],a,b=>⟨a,b⟩
 |x::l,a,b=>foldZ l (fAdd a x.re) (fAdd b x.im)
def sumZ:List Cpx→Cpx
 | []=>⟨0#64,0#64⟩
 |x::l=>foldZ l x.re x.im
theorem PS0 (l:List Cpx)(hl:l.length<4611686018427387904):∀ (f m i:Nat) (a b:BitVec 64),i+m=l.length→m<f→
  Pplane_SumL0 l (l.length:Int) f a b (i:Int)=some ((foldZ (l.drop i) a b).re,(foldZ (l.drop i) a b).im)
 |0,m,i,_,_,_,hm=>by omega
 |f+1,m,i,a,b,e,hm=>by
  unfold Pplane_SumL0
  cases m with
  |zero=>rw [if_neg (by omega),List.drop_of_length_le (by omega)];rfl
  |succ m=>
   have i1:i<l.length:=by omega
   have ih:=PS0 l hl f m (i+1) (fAdd a l[i].re) (fAdd b l[i].im) (by omega) (by omega)
   rw [if_pos (by omega),idxN i1,List.drop_eq_getElem_cons i1,foldZ]
   unfold Pplane_Add
   simp only []
   rw [wrp (n:=(i:Int)+1) ⟨by omega,by omega⟩,show (i:Int)+1=((i+1:Nat):Int) by omega]
   exact ih
theorem P_sum (F:Nat)(l:List Cpx)(hl:l.length<4611686018427387904)(hF:l.length<F):Pplane_Sum F l=some ((sumZ l).re,(sumZ l).im):=by
 unfold Pplane_Sum
 cases l with
 |nil=>rfl
 |cons x l=>
  rw [if_neg (by rw [List.length_cons];omega)]
  have e0:idx (x::l) (0:Int)=some x:=idxN (l:=x::l) (i:=0) (by simp)
  rw [e0]
  simp only []
  rw [if_pos (by rw [List.length_cons];omega)]
  have e1:((x::l).drop 1).take ((x::l).length-1)=l:=by simp
  rw [e1]
  rw [List.length_cons] at hl hF
  have:=PS0 l (by omega) F l.length 0 x.re x.im (by omega) (by omega)
  rw [show ((0:Nat):Int)=0 from rfl] at this
  rw [this]
  rfl
theorem RS0 (l:List Cpx)(hl:l.length<4611686018427387904)(u v:BitVec 64):∀ (f m i:Nat) (a b:BitVec 64),i+m=l.length→m<f→
  Pref03_SumL0 (l.map toZ) u v f (i:Int) a b=some ((foldZ (l.drop i) a b).re,(foldZ (l.drop i) a b).im)
 |0,m,i,_,_,_,hm=>by omega
 |f+1,m,i,a,b,e,hm=>by
  unfold Pref03_SumL0
  rw [List.length_map]
  cases m with
  |zero=>rw [if_neg (by omega),List.drop_of_length_le (by omega)];rfl
  |succ m=>
   have i1:i<l.length:=by omega
   have ih:=RS0 l hl u v f m (i+1) (fAdd a l[i].re) (fAdd b l[i].im) (by omega) (by omega)
   rw [if_pos (by omega),idxN (l:=l.map toZ) (i:=i) (by rw [List.length_map];omega),List.getElem_map,List.drop_eq_getElem_cons i1,foldZ]
   unfold Pref03_Add
   simp only []
   rw [wrp (n:=(i:Int)+1) ⟨by omega,by omega⟩,show (i:Int)+1=((i+1:Nat):Int) by omega]
   exact ih
theorem R_sum (F:Nat)(l:List Cpx)(hl:l.length<4611686018427387904)(hF:l.length<F):Pref03_Sum F (l.map toZ)=some ((sumZ l).re,(sumZ l).im):=by
 unfold Pref03_Sum
 cases l with
 |nil=>rfl
 |cons x l=>
  rw [if_neg (by rw [List.length_map,List.length_cons];omega)]
  have e0:idx ((x::l).map toZ) (0:Int)=some (toZ x):=by
   have:=idxN (l:=(x::l).map toZ) (i:=0) (by simp)
   exact this
  rw [e0]
  simp only []
  have:=RS0 (x::l) hl 0#64 0#64 F l.length 1 (toZ x).f_Re (toZ x).f_Im (by rw [List.length_cons];omega) (by rw [List.length_cons] at hF;omega)
  rw [show ((1:Nat):Int)=1 from rfl] at this
  rw [this]
  rfl
def ldZ (x:BitVec 64)(n:Int):BitVec 64:=(Pmath_Ldexp x (IntKind.i64.wrap (0-n))).getD 0#64
theorem P_half (a b:BitVec 64){n:Int}(h0:0≤n)(h1:n≤2000):Pplane_Half a b n=some (ldZ a n,ldZ b n,0):=by
 unfold Pplane_Half
 rw [if_neg (by omega),if_neg (by omega),ldexp_some a,ldexp_some b]
 rfl
theorem R_half (a b:BitVec 64){n:Int}(h0:0≤n)(h1:n≤2000):Pref03_Half a b n=some (ldZ a n,ldZ b n,0):=by
 unfold Pref03_Half
 rw [if_neg (by omega),if_neg (by omega),ldexp_some a,ldexp_some b]
 rfl
def cel (t:List (BitVec 64))(n:Int)(s r c:Nat):Cpx:=⟨fAdd (ldZ (sumZ (rowT t s r c s 0)).re n) 0#64,fAdd (ldZ (sumZ (rowT t s r c s 0)).im n) 0#64⟩
theorem P_clean (a b:BitVec 64):Pplane_Clean a b=(fAdd a 0#64,fAdd b 0#64):=rfl
theorem R_clean (a b:BitVec 64):Pref03_Clean a b=(fAdd a 0#64,fAdd b 0#64):=rfl
def rowC (t:List (BitVec 64))(n:Int)(s r:Nat):Nat→Nat→List Cpx
 |0,_=>[]
 |m+1,c=>cel t n s r c::rowC t n s r m (c+1)
theorem rowC_len (t:List (BitVec 64))(n:Int)(s r:Nat):∀ m c,(rowC t n s r m c).length=m
 |0,_=>rfl
 |m+1,c=>by rw [rowC,List.length_cons,rowC_len t n s r m (c+1)]
def rowsC (t:List (BitVec 64))(n:Int)(s:Nat):Nat→Nat→List Cpx
 |0,_=>[]
 |m+1,r=>rowC t n s r s 0++rowsC t n s m (r+1)
theorem P4 (F:Nat)(t:List (BitVec 64))(n:Int)(h0:0≤n)(h1:n≤2000)(s:Nat)(hs:s≤32)(hl:t.length=s*s)(hx:∀ r c,r<s→c<s→(r ^^^ c)<s)(hF:40≤F)(r:Nat)(hr:r<s)(v4 v5 v8 v9:Int):∀ (f m c:Nat) (acc:List Cpx),c+m=s→m<f→acc.length+m≤2048→
  Pexpect_RebuildL4 F f t n (s:Int) (r:Int) v4 v5 (s:Int) (c:Int) v8 v9 acc=some (.inr (t,n,(s:Int),v4,v5,v8,v9,acc++rowC t n s r m c))
 |0,m,c,acc,_,hm,_=>by omega
 |f+1,m,c,acc,e,hm,ha=>by
  unfold Pexpect_RebuildL4
  cases m with
  |zero=>rw [if_neg (by omega),rowC,List.append_nil]
  |succ m=>
   have hc:c<s:=by omega
   have z:Sz t s r c:=⟨hs,hr,hc,hx r c hr hc,hl⟩
   have ih:=P4 F t n h0 h1 s hs hl hx hF r hr v4 v5 v8 v9 f m (c+1) (acc++[cel t n s r c]) (by omega) (by omega) (by rw [List.length_append,List.length_cons,List.length_nil];omega)
   rw [if_pos (by omega),(at32 (a:=r) (b:=c) (by omega) (by omega)).1,P3 t n s r c z v4 v5 (s:Int) (c:Int) v8 v9 acc F (by omega)]
   simp only []
   rw [P_sum F (rowT t s r c s 0) (by rw [rowT_len];omega) (by rw [rowT_len];omega)]
   simp only []
   rw [P_half _ _ h0 h1]
   simp only [P_clean]
   rw [if_pos (by omega),wrp (n:=(c:Int)+1) ⟨by omega,by omega⟩,show (c:Int)+1=((c+1:Nat):Int) by omega]
   rw [rowC,show acc++cel t n s r c::rowC t n s r m (c+1)=(acc++[cel t n s r c])++rowC t n s r m (c+1) by rw [List.append_assoc];rfl]
   exact ih
theorem P8 (F:Nat)(t:List (BitVec 64))(n:Int)(h0:0≤n)(h1:n≤2000)(s:Nat)(hs:s≤32)(hl:t.length=s*s)(hx:∀ r c,r<s→c<s→(r ^^^ c)<s)(hF:40≤F)(r:Nat)(hr:r<s)(v4 v5 v8 v9:Int):∀ (f m c:Nat) (acc:List Cpx),c+m=s→m<f→acc.length+m≤2048→
  Pexpect_RebuildL8 F f t n (s:Int) (r:Int) v4 v5 (s:Int) (c:Int) v8 v9 acc=some ((t,n,(s:Int),v4,v5,v8,v9,acc++rowC t n s r m c))
 |0,m,c,acc,_,hm,_=>by omega
 |f+1,m,c,acc,e,hm,ha=>by
  unfold Pexpect_RebuildL8
  cases m with
  |zero=>rw [if_neg (by omega),rowC,List.append_nil]
  |succ m=>
   have hc:c<s:=by omega
   have z:Sz t s r c:=⟨hs,hr,hc,hx r c hr hc,hl⟩
   have ih:=P8 F t n h0 h1 s hs hl hx hF r hr v4 v5 v8 v9 f m (c+1) (acc++[cel t n s r c]) (by omega) (by omega) (by rw [List.length_append,List.length_cons,List.length_nil];omega)
   rw [if_pos (by omega),(at32 (a:=r) (b:=c) (by omega) (by omega)).1,P7 t n s r c z v4 v5 (s:Int) (c:Int) v8 v9 acc F (by omega)]
   simp only []
   rw [P_sum F (rowT t s r c s 0) (by rw [rowT_len];omega) (by rw [rowT_len];omega)]
   simp only []
   rw [P_half _ _ h0 h1]
   simp only [P_clean]
   rw [if_pos (by omega),wrp (n:=(c:Int)+1) ⟨by omega,by omega⟩,show (c:Int)+1=((c+1:Nat):Int) by omega]
   rw [rowC,show acc++cel t n s r c::rowC t n s r m (c+1)=(acc++[cel t n s r c])++rowC t n s r m (c+1) by rw [List.append_assoc];rfl]
   exact ih
theorem P5 (F:Nat)(t:List (BitVec 64))(n:Int)(h0:0≤n)(h1:n≤2000)(s:Nat)(hs:s≤32)(hl:t.length=s*s)(hx:∀ r c,r<s→c<s→(r ^^^ c)<s)(hF:40≤F)(r:Nat)(hr:r<s)(v4 v5 v8 v9:Int)(f:Nat)(hf:s<f) :
  Pexpect_RebuildL5 F f t n (s:Int) (r:Int) v4 v5 (s:Int) 0 v8 v9=some (.inr (t,n,(s:Int),v4,v5,v8,v9,rowC t n s r s 0)):=by
 obtain ⟨f,rfl⟩:∃ g,f=g+1:=⟨f-1,by omega⟩
 have z:Sz t s r 0:=⟨hs,hr,by omega,hx r 0 hr (by omega),hl⟩
 unfold Pexpect_RebuildL5
 dsimp only
 have ih:=P4 F t n h0 h1 s hs hl hx hF r hr v4 v5 v8 v9 f (s-1) 1 [cel t n s r 0] (by omega) (by omega) (by simp;omega)
 have x0:=(at32 (a:=r) (b:=0) (by omega) (by omega)).1
 have p1:=P1 t n s r 0 z v4 v5 (s:Int) 0 v8 v9 F (by omega)
 rw [show ((0:Nat):Int)=0 from rfl] at x0 p1
 rw [if_pos (by omega),x0,p1]
 simp only []
 rw [P_sum F (rowT t s r 0 s 0) (by rw [rowT_len];omega) (by rw [rowT_len];omega)]
 simp only []
 rw [P_half _ _ h0 h1]
 simp only [P_clean]
 rw [wrp (n:=(0:Int)+1) ⟨by omega,by omega⟩,show (0:Int)+1=((1:Nat):Int) by omega]
 obtain ⟨m,rfl⟩:∃ m,s=m+1:=⟨s-1,by omega⟩
 exact ih
theorem P9 (F:Nat)(t:List (BitVec 64))(n:Int)(h0:0≤n)(h1:n≤2000)(s:Nat)(hs:s≤32)(hl:t.length=s*s)(hx:∀ r c,r<s→c<s→(r ^^^ c)<s)(hF:40≤F)(v5 v6:Int):∀ (f m r:Nat) (acc:List Cpx),r+m=s→m<f→acc.length+m*s≤1024→
  Pexpect_RebuildL9 F f t n (s:Int) (s:Int) (r:Int) v5 v6 acc=some (.inr (v5,v6,acc++rowsC t n s m r))
 |0,m,r,acc,_,hm,_=>by omega
 |f+1,m,r,acc,e,hm,ha=>by
  unfold Pexpect_RebuildL9
  cases m with
  |zero=>rw [if_neg (by omega),rowsC,List.append_nil]
  |succ m=>
   have hq:(m+1)*s=m*s+s:=by rw [Nat.add_mul,Nat.one_mul]
   have ih:=P9 F t n h0 h1 s hs hl hx hF v5 v6 f m (r+1) (acc++rowC t n s r s 0) (by omega) (by omega) (by rw [List.length_append,rowC_len];omega)
   have p8:=P8 F t n h0 h1 s hs hl hx hF r (by omega) (s:Int) (r:Int) v5 v6 F s 0 acc (by omega) (by omega) (by omega)
   rw [show ((0:Nat):Int)=0 from rfl] at p8
   rw [if_pos (by omega),p8]
   simp only []
   rw [wrp (n:=(r:Int)+1) ⟨by omega,by omega⟩,show (r:Int)+1=((r+1:Nat):Int) by omega,rowsC,← List.append_assoc]
   exact ih
theorem P10 (F:Nat)(t:List (BitVec 64))(n:Int)(h0:0≤n)(h1:n≤2000)(s:Nat)(hs:s≤32)(hl:t.length=s*s)(hx:∀ r c,r<s→c<s→(r ^^^ c)<s)(hF:40≤F)(hp:0<s)(v5 v6:Int)(f:Nat)(hf:s<f) :
  Pexpect_RebuildL10 F f t n (s:Int) (s:Int) 0 v5 v6=some (.inr (v5,v6,rowsC t n s s 0)):=by
 obtain ⟨f,rfl⟩:∃ g,f=g+1:=⟨f-1,by omega⟩
 unfold Pexpect_RebuildL10
 have hq:s*s≤32*32:=Nat.mul_le_mul hs hs
 have hq2:s+(s-1)*s=s*s:=by
  obtain ⟨m,rfl⟩:∃ m,s=m+1:=⟨s-1,by omega⟩
  rw [Nat.add_sub_cancel,Nat.add_mul,Nat.one_mul,Nat.add_comm]
 have ih:=P9 F t n h0 h1 s hs hl hx hF v5 v6 f (s-1) 1 (rowC t n s 0 s 0) (by omega) (by omega) (by rw [rowC_len];omega)
 have p5:=P5 F t n h0 h1 s hs hl hx hF 0 (by omega) (s:Int) ((0:Nat):Int) v5 v6 F (by omega)
 rw [show ((0:Nat):Int)=0 from rfl] at p5
 rw [if_pos (by omega),p5]
 simp only []
 rw [wrp (n:=(0:Int)+1) ⟨by omega,by omega⟩,show (0:Int)+1=((1:Nat):Int) by omega]
 obtain ⟨m,rfl⟩:∃ m,s=m+1:=⟨s-1,by omega⟩
 exact ih
theorem R4 (F:Nat)(t:List (BitVec 64))(n:Int)(h0:0≤n)(h1:n≤2000)(s:Nat)(hs:s≤32)(hl:t.length=s*s)(hx:∀ r c,r<s→c<s→(r ^^^ c)<s)(hF:40≤F)(r:Nat)(hr:r<s)(v5 v6:Int):∀ (f m c:Nat) (acc:List Zs),c+m=s→m<f→acc.length+m≤2048→
  Pref22_RebuildL4 F f t n (s:Int) (r:Int) (c:Int) v5 v6 acc=some (.inr (t,n,(s:Int),(r:Int),v5,v6,acc++(rowC t n s r m c).map toZ))
 |0,m,c,acc,_,hm,_=>by omega
 |f+1,m,c,acc,e,hm,ha=>by
  unfold Pref22_RebuildL4
  cases m with
  |zero=>rw [if_neg (by omega),rowC,List.map_nil,List.append_nil]
  |succ m=>
   have hc:c<s:=by omega
   have z:Sz t s r c:=⟨hs,hr,hc,hx r c hr hc,hl⟩
   have ih:=R4 F t n h0 h1 s hs hl hx hF r hr v5 v6 f m (c+1) (acc++[toZ (cel t n s r c)]) (by omega) (by omega) (by rw [List.length_append,List.length_cons,List.length_nil];omega)
   rw [if_pos (by omega),R3 F (by omega) t n s r c z v5 v6 acc F (by omega)]
   simp only []
   rw [R_sum F (rowT t s r c s 0) (by rw [rowT_len];omega) (by rw [rowT_len];omega)]
   simp only []
   rw [R_half _ _ h0 h1]
   simp only [R_clean]
   rw [if_pos (by omega),wrp (n:=(c:Int)+1) ⟨by omega,by omega⟩,show (c:Int)+1=((c+1:Nat):Int) by omega]
   rw [rowC,List.map_cons,show acc++toZ (cel t n s r c)::(rowC t n s r m (c+1)).map toZ=(acc++[toZ (cel t n s r c)])++(rowC t n s r m (c+1)).map toZ by rw [List.append_assoc];rfl]
   exact ih
theorem R8 (F:Nat)(t:List (BitVec 64))(n:Int)(h0:0≤n)(h1:n≤2000)(s:Nat)(hs:s≤32)(hl:t.length=s*s)(hx:∀ r c,r<s→c<s→(r ^^^ c)<s)(hF:40≤F)(r:Nat)(hr:r<s)(v5 v6:Int):∀ (f m c:Nat) (acc:List Zs),c+m=s→m<f→acc.length+m≤2048→
  Pref22_RebuildL8 F f t n (s:Int) (r:Int) (c:Int) v5 v6 acc=some (t,n,(s:Int),(r:Int),v5,v6,acc++(rowC t n s r m c).map toZ)
 |0,m,c,acc,_,hm,_=>by omega
 |f+1,m,c,acc,e,hm,ha=>by
  unfold Pref22_RebuildL8
  cases m with
  |zero=>rw [if_neg (by omega),rowC,List.map_nil,List.append_nil]
  |succ m=>
   have hc:c<s:=by omega
   have z:Sz t s r c:=⟨hs,hr,hc,hx r c hr hc,hl⟩
   have ih:=R8 F t n h0 h1 s hs hl hx hF r hr v5 v6 f m (c+1) (acc++[toZ (cel t n s r c)]) (by omega) (by omega) (by rw [List.length_append,List.length_cons,List.length_nil];omega)
   rw [if_pos (by omega),R7 F (by omega) t n s r c z v5 v6 acc F (by omega)]
   simp only []
   rw [R_sum F (rowT t s r c s 0) (by rw [rowT_len];omega) (by rw [rowT_len];omega)]
   simp only []
   rw [R_half _ _ h0 h1]
   simp only [R_clean]
   rw [if_pos (by omega),wrp (n:=(c:Int)+1) ⟨by omega,by omega⟩,show (c:Int)+1=((c+1:Nat):Int) by omega]
   rw [rowC,List.map_cons,show acc++toZ (cel t n s r c)::(rowC t n s r m (c+1)).map toZ=(acc++[toZ (cel t n s r c)])++(rowC t n s r m (c+1)).map toZ by rw [List.append_assoc];rfl]
   exact ih
theorem R5 (F:Nat)(t:List (BitVec 64))(n:Int)(h0:0≤n)(h1:n≤2000)(s:Nat)(hs:s≤32)(hl:t.length=s*s)(hx:∀ r c,r<s→c<s→(r ^^^ c)<s)(hF:40≤F)(r:Nat)(hr:r<s)(v5 v6:Int)(f:Nat)(hf:s<f) :
  Pref22_RebuildL5 F f t n (s:Int) (r:Int) 0 v5 v6=some (.inr (t,n,(s:Int),(r:Int),v5,v6,(rowC t n s r s 0).map toZ)):=by
 obtain ⟨f,rfl⟩:∃ g,f=g+1:=⟨f-1,by omega⟩
 have z:Sz t s r 0:=⟨hs,hr,by omega,hx r 0 hr (by omega),hl⟩
 unfold Pref22_RebuildL5
 dsimp only
 have ih:=R4 F t n h0 h1 s hs hl hx hF r hr v5 v6 f (s-1) 1 [toZ (cel t n s r 0)] (by omega) (by omega) (by simp;omega)
 have p1:=R1 F (by omega) t n s r 0 z v5 v6 F (by omega)
 rw [show ((0:Nat):Int)=0 from rfl] at p1
 rw [if_pos (by omega),p1]
 simp only []
 rw [R_sum F (rowT t s r 0 s 0) (by rw [rowT_len];omega) (by rw [rowT_len];omega)]
 simp only []
 rw [R_half _ _ h0 h1]
 simp only [R_clean]
 rw [wrp (n:=(0:Int)+1) ⟨by omega,by omega⟩,show (0:Int)+1=((1:Nat):Int) by omega]
 obtain ⟨m,rfl⟩:∃ m,s=m+1:=⟨s-1,by omega⟩
 exact ih
theorem R9 (F:Nat)(t:List (BitVec 64))(n:Int)(h0:0≤n)(h1:n≤2000)(s:Nat)(hs:s≤32)(hl:t.length=s*s)(hx:∀ r c,r<s→c<s→(r ^^^ c)<s)(hF:40≤F)(v5 v6:Int):∀ (f m r:Nat) (acc:List Zs),r+m=s→m<f→acc.length+m*s≤1024→
  Pref22_RebuildL9 F f t n (s:Int) (r:Int) v5 v6 acc=some (.inr (v5,v6,acc++(rowsC t n s m r).map toZ))
 |0,m,r,acc,_,hm,_=>by omega
 |f+1,m,r,acc,e,hm,ha=>by
  unfold Pref22_RebuildL9
  cases m with
  |zero=>rw [if_neg (by omega),rowsC,List.map_nil,List.append_nil]
  |succ m=>
   have hq:(m+1)*s=m*s+s:=by rw [Nat.add_mul,Nat.one_mul]
   have ih:=R9 F t n h0 h1 s hs hl hx hF v5 v6 f m (r+1) (acc++(rowC t n s r s 0).map toZ) (by omega) (by omega) (by rw [List.length_append,List.length_map,rowC_len];omega)
   have p8:=R8 F t n h0 h1 s hs hl hx hF r (by omega) v5 v6 F s 0 acc (by omega) (by omega) (by omega)
   rw [show ((0:Nat):Int)=0 from rfl] at p8
   rw [if_pos (by omega),p8]
   simp only []
   rw [wrp (n:=(r:Int)+1) ⟨by omega,by omega⟩,show (r:Int)+1=((r+1:Nat):Int) by omega,rowsC,List.map_append,← List.append_assoc]
   exact ih
theorem R10 (F:Nat)(t:List (BitVec 64))(n:Int)(h0:0≤n)(h1:n≤2000)(s:Nat)(hs:s≤32)(hl:t.length=s*s)(hx:∀ r c,r<s→c<s→(r ^^^ c)<s)(hF:40≤F)(hp:0<s)(v5 v6:Int)(f:Nat)(hf:s<f) :
  Pref22_RebuildL10 F f t n (s:Int) 0 v5 v6=some (.inr (v5,v6,(rowsC t n s s 0).map toZ)):=by
 obtain ⟨f,rfl⟩:∃ g,f=g+1:=⟨f-1,by omega⟩
 unfold Pref22_RebuildL10
 have hq:s*s≤32*32:=Nat.mul_le_mul hs hs
 have hq2:s+(s-1)*s=s*s:=by
  obtain ⟨m,rfl⟩:∃ m,s=m+1:=⟨s-1,by omega⟩
  rw [Nat.add_sub_cancel,Nat.add_mul,Nat.one_mul,Nat.add_comm]
 have ih:=R9 F t n h0 h1 s hs hl hx hF v5 v6 f (s-1) 1 ((rowC t n s 0 s 0).map toZ) (by omega) (by omega) (by rw [List.length_map,rowC_len];omega)
 have p5:=R5 F t n h0 h1 s hs hl hx hF 0 (by omega) v5 v6 F (by omega)
 rw [show ((0:Nat):Int)=0 from rfl] at p5
 rw [if_pos (by omega),p5]
 simp only []
 rw [wrp (n:=(0:Int)+1) ⟨by omega,by omega⟩,show (0:Int)+1=((1:Nat):Int) by omega]
 obtain ⟨m,rfl⟩:∃ m,s=m+1:=⟨s-1,by omega⟩
 rw [show m+1-1=m by omega,← List.map_append] at ih
 exact ih
theorem xor_lt {n r c:Nat}(hr:r<2 ^ n)(hc:c<2 ^ n):(r ^^^ c)<2 ^ n:=Nat.xor_lt_two_pow hr hc
def rebA (t:List (BitVec 64)):Int×List Cpx×Int:=if qn t.length<0 then (0,[],220) else (((2 ^ (qn t.length).toNat:Nat):Int),rowsC t (qn t.length) (2 ^ (qn t.length).toNat) (2 ^ (qn t.length).toNat) 0,0)
theorem P_reb (F:Nat)(hF:40≤F)(t:List (BitVec 64)):Pexpect_Rebuild F t=some (rebA t):=by
 unfold Pexpect_Rebuild rebA
 rw [P_qubits F (by omega)]
 rcases qn_cases t.length with h|⟨n,hn,e,hl⟩
 ·rw [h];rfl
 ·rw [e]
  obtain ⟨s1,_,s3⟩:=side_p hn
  have:=P10 F t (n:Int) (by omega) (by omega) (2 ^ n) s3 hl (fun r c=>xor_lt) hF (Nat.two_pow_pos n) 0 ((2 ^ n:Nat):Int) F (by omega)
  simp only [s1]
  rw [if_neg (by omega),if_neg (by omega),this]
  rfl
theorem R_reb (F:Nat)(hF:40≤F)(t:List (BitVec 64)):Pref22_Rebuild F t=some ((rebA t).1,(rebA t).2.1.map toZ,(rebA t).2.2):=by
 unfold Pref22_Rebuild rebA
 rw [R_side F (by omega)]
 rcases qn_cases t.length with h|⟨n,hn,e,hl⟩
 ·rw [h];rfl
 ·rw [e]
  obtain ⟨_,s2,s3⟩:=side_p hn
  have:=R10 F t (n:Int) (by omega) (by omega) (2 ^ n) s3 hl (fun r c=>xor_lt) hF (Nat.two_pow_pos n) 0 ((2 ^ n:Nat):Int) F (by omega)
  simp only [s2]
  rw [if_neg (by omega),if_neg (by omega),this]
  rfl
theorem rowsC_len (t:List (BitVec 64))(n:Int)(s:Nat):∀ m r,(rowsC t n s m r).length=m*s
 |0,_=>by rw [Nat.zero_mul];rfl
 |m+1,r=>by rw [rowsC,List.length_append,rowC_len,rowsC_len t n s m (r+1),Nat.add_mul,Nat.one_mul,Nat.add_comm]
theorem rebA_len (t:List (BitVec 64)):(rebA t).2.1.length≤1024:=by
 unfold rebA
 rcases qn_cases t.length with h|⟨n,hn,e,hl⟩
 ·rw [h,if_pos (by decide)];decide
 ·rw [e,if_neg (by omega)]
  show (rowsC _ _ _ _ _).length≤1024
  rw [rowsC_len]
  have s3:=(side_p hn).2.2
  exact Nat.mul_le_mul s3 s3
theorem LS0 (l:List Cpx)(hl:l.length<4611686018427387904):∀ (f m i:Nat),i+m=l.length→m<f→Plaw10_SameL0 l (l.map toZ) f (i:Int)=some (.inr ())
 |0,m,i,_,hm=>by omega
 |f+1,m,i,e,hm=>by
  unfold Plaw10_SameL0
  cases m with
  |zero=>rw [if_neg (by omega)]
  |succ m=>
   have i1:i<l.length:=by omega
   have ih:=LS0 l hl f m (i+1) (by omega) (by omega)
   rw [if_pos (by omega),idxN i1,idxN (l:=l.map toZ) (i:=i) (by rw [List.length_map];omega),List.getElem_map]
   have e1:Plaw03_Is l[i].re l[i].im (toZ l[i]).f_Re (toZ l[i]).f_Im=some true:=by
    unfold Plaw03_Is Plaw03_Z
    show (match Pref03_Same l[i].re l[i].im l[i].re l[i].im with|none=>none|some r3=>some r3)=_
    rw [same03]
   simp only [e1,cond_true]
   rw [wrp (n:=(i:Int)+1) ⟨by omega,by omega⟩,show (i:Int)+1=((i+1:Nat):Int) by omega]
   exact ih
theorem L_same (F:Nat)(l:List Cpx)(hl:l.length<4611686018427387904)(hF:l.length<F):Plaw10_Same F l (l.map toZ)=some true:=by
 unfold Plaw10_Same
 have:=LS0 l hl F l.length 0 (by omega) hF
 rw [show ((0:Nat):Int)=0 from rfl] at this
 rw [if_pos (by rw [List.length_map]),this]
theorem LF0 (l:List (BitVec 64))(hl:l.length<4611686018427387904):∀ (f m i:Nat),i+m=l.length→m<f→Plaw22_floatsL0 l l f (i:Int)=some (.inr ())
 |0,m,i,_,hm=>by omega
 |f+1,m,i,e,hm=>by
  unfold Plaw22_floatsL0
  cases m with
  |zero=>rw [if_neg (by omega)]
  |succ m=>
   have i1:i<l.length:=by omega
   have ih:=LF0 l hl f m (i+1) (by omega) (by omega)
   rw [if_pos (by omega),idxN i1]
   simp only [same02,cond_true]
   rw [wrp (n:=(i:Int)+1) ⟨by omega,by omega⟩,show (i:Int)+1=((i+1:Nat):Int) by omega]
   exact ih
theorem L_floats (F:Nat)(l:List (BitVec 64))(hl:l.length<4611686018427387904)(hF:l.length<F):Plaw22_floats F l l=some true:=by
 unfold Plaw22_floats
 have:=LF0 l hl F l.length 0 (by omega) hF
 rw [show ((0:Nat):Int)=0 from rfl] at this
 rw [if_pos rfl,this]
def sqs (t:List (BitVec 64)):List (BitVec 64):=t.map fun x=>fMul x x
theorem PP0 (v0:Int)(t:List (BitVec 64))(hl:t.length≤1024):∀ (f m i:Nat) (acc:List (BitVec 64)),i+m=t.length→m<f→acc.length=i→
  Pexpect_PurityL0 f v0 t (t.length:Int) (i:Int) acc=some (.inr (v0,acc++sqs (t.drop i)))
 |0,m,i,_,_,hm,_=>by omega
 |f+1,m,i,acc,e,hm,ha=>by
  unfold Pexpect_PurityL0
  cases m with
  |zero=>rw [if_neg (by omega),List.drop_of_length_le (by omega)];simp [sqs]
  |succ m=>
   have i1:i<t.length:=by omega
   have ih:=PP0 v0 t hl f m (i+1) (acc++[fMul t[i] t[i]]) (by omega) (by omega) (by simp [ha])
   rw [if_pos (by omega),idxN i1,List.drop_eq_getElem_cons i1]
   simp only []
   rw [if_pos (by omega),wrp (n:=(i:Int)+1) ⟨by omega,by omega⟩,show (i:Int)+1=((i+1:Nat):Int) by omega,ih,sqs,sqs,List.map_cons,List.append_assoc]
   rfl
theorem RP0 (v0:Int)(t:List (BitVec 64))(hl:t.length≤1024):∀ (f m i:Nat) (acc:List (BitVec 64)),i+m=t.length→m<f→acc.length=i→
  Pref22_PurityL0 f t v0 (i:Int) acc=some (.inr (v0,acc++sqs (t.drop i)))
 |0,m,i,_,_,hm,_=>by omega
 |f+1,m,i,acc,e,hm,ha=>by
  unfold Pref22_PurityL0
  cases m with
  |zero=>rw [if_neg (by omega),List.drop_of_length_le (by omega)];simp [sqs]
  |succ m=>
   have i1:i<t.length:=by omega
   have ih:=RP0 v0 t hl f m (i+1) (acc++[fMul t[i] t[i]]) (by omega) (by omega) (by simp [ha])
   rw [if_pos (by omega),idxN i1,List.drop_eq_getElem_cons i1]
   simp only []
   rw [if_pos (by omega),wrp (n:=(i:Int)+1) ⟨by omega,by omega⟩,show (i:Int)+1=((i+1:Nat):Int) by omega,ih,sqs,sqs,List.map_cons,List.append_assoc]
   rfl
def foldF:List (BitVec 64)→BitVec 64→BitVec 64
 | [],a=>a
 |x::l,a=>foldF l (fAdd a x)
theorem PF0 (l:List (BitVec 64))(hl:l.length<4611686018427387904):∀ (f m i:Nat) (a:BitVec 64),i+m=l.length→m<f→Pscalar_SumL0 l (l.length:Int) f a (i:Int)=some (foldF (l.drop i) a)
 |0,m,i,_,_,hm=>by omega
 |f+1,m,i,a,e,hm=>by
  unfold Pscalar_SumL0
  cases m with
  |zero=>rw [if_neg (by omega),List.drop_of_length_le (by omega)];rfl
  |succ m=>
   have i1:i<l.length:=by omega
   have ih:=PF0 l hl f m (i+1) (fAdd a l[i]) (by omega) (by omega)
   rw [if_pos (by omega),idxN i1,List.drop_eq_getElem_cons i1,foldF]
   simp only []
   rw [wrp (n:=(i:Int)+1) ⟨by omega,by omega⟩,show (i:Int)+1=((i+1:Nat):Int) by omega]
   exact ih
theorem RF0 (l:List (BitVec 64))(hl:l.length<4611686018427387904):∀ (f m i:Nat) (a:BitVec 64),i+m=l.length→m<f→Pref02_SumL0 l f a (i:Int)=some (foldF (l.drop i) a)
 |0,m,i,_,_,hm=>by omega
 |f+1,m,i,a,e,hm=>by
  unfold Pref02_SumL0
  cases m with
  |zero=>rw [if_neg (by omega),List.drop_of_length_le (by omega)];rfl
  |succ m=>
   have i1:i<l.length:=by omega
   have ih:=RF0 l hl f m (i+1) (fAdd a l[i]) (by omega) (by omega)
   rw [if_pos (by omega),idxN i1,List.drop_eq_getElem_cons i1,foldF]
   simp only []
   rw [wrp (n:=(i:Int)+1) ⟨by omega,by omega⟩,show (i:Int)+1=((i+1:Nat):Int) by omega]
   exact ih
theorem P_sumF (F:Nat)(l:List (BitVec 64))(hl:l.length<4611686018427387904)(hF:l.length<F):Pscalar_Sum F l=some (foldF l 0#64):=by
 unfold Pscalar_Sum
 have:=PF0 l hl F l.length 0 0#64 (by omega) hF
 rw [show ((0:Nat):Int)=0 from rfl] at this
 rw [this];rfl
theorem R_sumF (F:Nat)(l:List (BitVec 64))(hl:l.length<4611686018427387904)(hF:l.length<F):Pref02_Sum F l=some (foldF l 0#64):=by
 unfold Pref02_Sum
 have:=RF0 l hl F l.length 0 0#64 (by omega) hF
 rw [show ((0:Nat):Int)=0 from rfl] at this
 rw [this];rfl
def purA (t:List (BitVec 64)):BitVec 64×Int:=if qn t.length<0 then (0#64,220) else (ldZ (foldF (sqs t) 0#64) (qn t.length),0)
theorem sqs_len (t:List (BitVec 64)):(sqs t).length=t.length:=List.length_map ..
theorem P_pur (F:Nat)(hF:1040≤F)(t:List (BitVec 64)):Pexpect_Purity F t=some (purA t):=by
 unfold Pexpect_Purity purA
 rw [P_qubits F (by omega)]
 rcases qn_cases t.length with h|⟨n,hn,e,hl⟩
 ·rw [h];rfl
 ·have s3:=(side_p hn).2.2
  have h4:t.length≤1024:=by rw [hl];exact Nat.mul_le_mul s3 s3
  have hp:=Nat.two_pow_pos n
  have h5:0<t.length:=by rw [hl];exact Nat.mul_pos hp hp
  have p0:=PP0 (n:Int) t h4 (F-1) (t.length-1) 1 [fMul t[0] t[0]] (by omega) (by omega) rfl
  have p1:Pexpect_PurityL1 F (n:Int) t (t.length:Int) 0=some (.inr ((n:Int),sqs t)):=by
   obtain ⟨f,rfl⟩:∃ g,F=g+1:=⟨F-1,by omega⟩
   unfold Pexpect_PurityL1
   dsimp only
   have e0:idx t (0:Int)=some t[0]:=idxN (i:=0) h5
   rw [if_pos (by omega),e0]
   simp only []
   rw [wrp (n:=(0:Int)+1) ⟨by omega,by omega⟩,show (0:Int)+1=((1:Nat):Int) by omega]
   rw [show f+1-1=f by omega] at p0
   rw [p0]
   obtain ⟨x,l,rfl⟩:∃ x l,t=x::l:=by cases t with|nil=>simp at h5|cons x l=>exact ⟨x,l,rfl⟩
   rfl
  rw [e]
  simp only []
  rw [if_neg (by omega),if_neg (by omega),p1]
  simp only []
  rw [P_sumF F (sqs t) (by rw [sqs_len];omega) (by rw [sqs_len];omega)]
  simp only []
  rw [ldexp_some]
  rfl
theorem R_pur (F:Nat)(hF:1040≤F)(t:List (BitVec 64)):Pref22_Purity F t=some (purA t):=by
 unfold Pref22_Purity purA
 rw [R_side F (by omega)]
 rcases qn_cases t.length with h|⟨n,hn,e,hl⟩
 ·rw [h];rfl
 ·have s3:=(side_p hn).2.2
  have h4:t.length≤1024:=by rw [hl];exact Nat.mul_le_mul s3 s3
  have hp:=Nat.two_pow_pos n
  have h5:0<t.length:=by rw [hl];exact Nat.mul_pos hp hp
  have p0:=RP0 (n:Int) t h4 (F-1) (t.length-1) 1 [fMul t[0] t[0]] (by omega) (by omega) rfl
  have p1:Pref22_PurityL1 F t (n:Int) 0=some (.inr ((n:Int),sqs t)):=by
   obtain ⟨f,rfl⟩:∃ g,F=g+1:=⟨F-1,by omega⟩
   unfold Pref22_PurityL1
   dsimp only
   have e0:idx t (0:Int)=some t[0]:=idxN (i:=0) h5
   rw [if_pos (by omega),e0]
   simp only []
   rw [wrp (n:=(0:Int)+1) ⟨by omega,by omega⟩,show (0:Int)+1=((1:Nat):Int) by omega]
   rw [show f+1-1=f by omega] at p0
   rw [p0]
   obtain ⟨x,l,rfl⟩:∃ x l,t=x::l:=by cases t with|nil=>simp at h5|cons x l=>exact ⟨x,l,rfl⟩
   rfl
  rw [e]
  simp only []
  rw [if_neg (by omega),if_neg (by omega),p1]
  simp only []
  rw [R_sumF F (sqs t) (by rw [sqs_len];omega) (by rw [sqs_len];omega)]
  simp only []
  rw [ldexp_some]
  rfl
theorem law_expectRebuilds (F:Nat)(hF:1566≤F)(t:List (BitVec 64))(hl:t.length*8≤140737488355328)(hF2:t.length<F):Plaw22_ExpectRebuilds F t=some true:=by
 have hlen:=rebA_len t
 have e1:=P_reb F (by omega) t
 have e2:=R_reb F (by omega) t
 have e3:=P_pur F (by omega) t
 have e4:=R_pur F (by omega) t
 have e5:=L_same F (rebA t).2.1 (by omega) (by omega)
 have e6:=L_floats F t (by omega) hF2
 unfold Plaw22_ExpectRebuilds Plaw22_num
 by_cases h:t=[]
 ·subst h
  rw [if_pos rfl,e1,e2,e3,e4]
  simp only [e5,e6,same02,if_true,cond_true]
 ·rw [if_neg h,if_pos hl,e1,e2,e3,e4]
  simp only [e5,e6,same02,if_true,cond_true]
end Go.Proofs.YtlgmimclpmolmaaDoor.Ab
