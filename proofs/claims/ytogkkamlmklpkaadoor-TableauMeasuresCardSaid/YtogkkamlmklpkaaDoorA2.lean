/- The abstract machine: operations, regions, code, functions, and their evaluation. Definitions only. -/
import Derived.Test.YtogkkamlmklpkaaDoorA1
set_option linter.unusedSimpArgs false
set_option linter.unusedVariables false
namespace Go.Proofs.YtogkkamlmklpkaaDoor.Ab
open Go
noncomputable section

inductive AX where
  | t (n : Nat)
  | k (v : AV)

/-- Operations on values alone: floats, complex numbers, a pointer held against nil. -/
inductive POp where
  | fbin (op : BinOp)
  | fcmp (op : BinOp)
  | ceq (neg : Bool)
  | fneg | re | im | mk
  | ofi
  | toi (k : IntKind)
  | pnil (neg : Bool)
  | fbits | ffrom

inductive AOp where
  | mv (x : AX)
  | nchk (x : AX)
  | pop (op : POp) (xs : List AX)
  | pick (c a b : AX)
  | alloc (lc : Bool) (ty : TypeId) (z : List AV)
  | box (lc : Bool) (ty : TypeId) (x : AX)
  | build (z : List AV) (ps : List (Nat × Nat × AX))
  | bslice (ety : TypeId) (esz len : Nat) (z : List AV) (ps : List (Nat × Nat × AX))
  | load (sz : Option Nat) (x : AX)
  | store (sz : Nat) (x v : AX)
  | bin (op : BinOp) (x y : AX)
  | eqs (neg : Bool) (bs : List Bool) (x y : AX)
  | eqb (neg : Bool) (x y : AX)
  | eqnil (neg : Bool) (x : AX)
  | un (op : UnOp) (x : AX)
  | conv (k : IntKind) (x : AX)
  | fadr (off : Nat) (x : AX)
  | fld (off : Nat) (sz : Option Nat) (x : AX)
  | iadr (esz : Nat) (x i : AX)
  | iadra (esz len : Nat) (x i : AX)
  | idx (esz : Nat) (agg : Bool) (len : Nat) (x i : AX)
  | idxs (x i : AX)
  | slc (esz : Nat) (x : AX) (lo hi mx : Option AX)
  | ext (x : AX) (j : Nat)
  | mkf (f : Fn) (first cap : List AX)
  | mks (ety : TypeId) (esz bytes : Nat) (z : List AV) (len cap : AX)
  | call (mode : Nat) (f : AX) (args : List AX)
  | len (str : Bool) (x : AX)
  | app (ety : TypeId) (esz bytes : Nat) (x y : AX)
  | mm (mx : Bool) (x y : AX)

structure AOper where
  dst : Option Nat
  guard : Option (Nat × Bool)
  op : AOp
  bef : Nat

inductive AC where
  | skip | ret
  | reg (draw : Bool) (ops : List AOper)
  | seq (a b : AC)
  | ite (c : AX) (a b : AC)
  | blk (id : Nat) (a : AC)
  | loop (a : AC)
  | exit (id : Nat)
  | cut (ts ls : List Nat) (a : AC)
  | cutg (base : Nat) (ts ls : List Nat) (a : AC)

inductive AR where
  | t (n : Nat)
  | cell (n : Nat) (sz : Option Nat)

structure AFn where
  nargs : Nat
  ntmps : Nat
  res : List AR
  body : AC

/-- What a call comes to: its value, the memory, the next number. -/
abbrev Res := AV × AHeap × Nat
/-- Function, arguments, memory, next number, floor: blocks below the floor are not written. What it comes to: a value, the memory as it was; or a value, the memory and the next number behind it. -/
abbrev Orc := Nat → List AV → AHeap → Nat → Nat → Option (AV × Option (AHeap × Nat))

structure AS where
  fr : List (Nat × AV)
  loc : List (Nat × List AV)
  h : AHeap
  n : Nat

/-- What an operation does: its value, slots and blocks as they are behind it ('none': gone); the next number; 'all': the whole memory is another. -/
structure Eff where
  val : Option AV
  loc : List (Nat × List AV)
  hp : List (Nat × Option ABlk)
  n : Nat
  all : Option AHeap

/-- What an operation looks at beside temporaries: slots, blocks; 'lim': all blocks below a number, but for some. -/
structure Foot where
  locs : List Nat
  hps : List Nat
  lim : Option (Nat × List Nat)

def Foot.no : Foot := ⟨[], [], none⟩
def Eff.v (v : AV) (n : Nat) : Eff := ⟨some v, [], [], n, none⟩

/-! ### Values -/
def AV.islp : AV → Bool
  | .lp _ _ => true
  | _ => false
/-- May it fill one cell? -/
def AV.one : AV → Bool
  | .lp _ _ | .agg _ | .tup _ => false
  | _ => true
def AV.cells : AV → List AV
  | .agg cs => cs
  | v => [v]
mutual
/-- Are all blocks that it names below a number? -/
def AV.old (n : Nat) : AV → Bool
  | .p (some (id, _)) => Nat.blt id n
  | .sl (some (id, _)) _ _ => Nat.blt id n
  | .fn _ x y => AV.olds n x && AV.olds n y
  | .agg cs => AV.olds n cs
  | .tup cs => AV.olds n cs
  | .lp _ _ => false
  | .vs _ _ cs => AV.olds n cs
  | .vp cs => AV.olds n cs
  | _ => true
def AV.olds (n : Nat) : List AV → Bool
  | [] => true
  | x :: xs => AV.old n x && AV.olds n xs
end

def splice {α : Type} : List α → Nat → List α → List α
  | l, _, [] => l
  | [], _, _ => []
  | _ :: l, 0, c :: cs => c :: splice l 0 cs
  | x :: l, k + 1, cs => x :: splice l k cs

/-- Parts filled into cells. -/
def afill (val : AX → Option AV) : List AV → List (Nat × Nat × AX) → Option (List AV)
  | z, [] => some z
  | z, (off, sz, x) :: r =>
    match val x with
    | some v => bif (!v.islp && v.cells.all AV.one && Nat.beq v.cells.length sz && Nat.ble (off + sz) z.length) then afill val (splice z off v.cells) r else none
    | none => none

def xv (fr : List (Nat × AV)) : AX → Option AV
  | .t n => fget fr n
  | .k v => some v
/-- An operand that is no place of a slot. -/
def xn (fr : List (Nat × AV)) (x : AX) : Option AV :=
  match xv fr x with
  | some v => bif v.islp then none else some v
  | none => none
def xns (fr : List (Nat × AV)) : List AX → Option (List AV)
  | [] => some []
  | x :: r => match xn fr x with
    | some v => match xns fr r with
      | some vs => some (v :: vs)
      | none => none
    | none => none

def bitop (op : BinOp) (k : IntKind) (x y : Int) : Int :=
  match op with
  | .and => k.wrap ((x % 2 ^ k.bits).toNat &&& (y % 2 ^ k.bits).toNat : Nat)
  | .or => k.wrap ((x % 2 ^ k.bits).toNat ||| (y % 2 ^ k.bits).toNat : Nat)
  | .xor => k.wrap ((x % 2 ^ k.bits).toNat ^^^ (y % 2 ^ k.bits).toNat : Nat)
  | _ => k.wrap ((x % 2 ^ k.bits).toNat &&& (2 ^ k.bits - 1 - (y % 2 ^ k.bits).toNat) : Nat)

def aint (op : BinOp) (k : IntKind) (x y : Int) : Option AV :=
  match op with
  | .add => some (.i k (k.wrap (x + y)))
  | .sub => some (.i k (k.wrap (x - y)))
  | .mul => some (.i k (k.wrap (x * y)))
  | .quo => if y = 0 then none else some (.i k (k.wrap (x.tdiv y)))
  | .rem => if y = 0 then none else some (.i k (x.tmod y))
  | .and => some (.i k (bitop .and k x y))
  | .or => some (.i k (bitop .or k x y))
  | .xor => some (.i k (bitop .xor k x y))
  | .andNot => some (.i k (bitop .andNot k x y))
  | .eql => some (.b (x == y))
  | .neq => some (.b (x != y))
  | .lss => some (.b (decide (x < y)))
  | .leq => some (.b (decide (x ≤ y)))
  | .gtr => some (.b (decide (x > y)))
  | .geq => some (.b (decide (x ≥ y)))
  | _ => none
def ashift (op : BinOp) (k : IntKind) (x y : Int) : Option AV :=
  if y < 0 then none else
  match op with
  | .shl => some (.i k (k.wrap (x * 2 ^ (min y.toNat k.bits))))
  | .shr => some (.i k (x.fdiv (2 ^ (min y.toNat k.bits))))
  | _ => none
def isShift : BinOp → Bool
  | .shl | .shr => true
  | _ => false
def IntKind.same : IntKind → IntKind → Bool
  | .i8, .i8 | .i16, .i16 | .i32, .i32 | .i64, .i64 | .u8, .u8 | .u16, .u16 | .u32, .u32 | .u64, .u64 => true
  | _, _ => false
def abin (op : BinOp) (x y : AV) : Option AV :=
  match x, y with
  | .i k a, .i k' b => bif isShift op then ashift op k a b else bif IntKind.same k k' then aint op k a b else none
  | .s a, .s b => match op with
    | .eql => some (.b (a.toList == b.toList))
    | .neq => some (.b (!(a.toList == b.toList)))
    | _ => none
  | _, _ => none
/-- Structs of integers ('false') and bools ('true'): equal? -/
def aeqs : List Bool → List AV → List AV → Option Bool
  | [], [], [] => some true
  | false :: bs, .i k a :: xs, .i k' b :: ys => bif IntKind.same k k' then (bif a == b then aeqs bs xs ys else some false) else none
  | true :: bs, .b a :: xs, .b b :: ys => bif a == b then aeqs bs xs ys else some false
  | _, _, _ => none
def aun (op : UnOp) (x : AV) : Option AV :=
  match op, x with
  | .neg, .i k n => some (.i k (k.wrap (0 - n)))
  | .xor, .i k n => some (.i k (bitop .xor k (if k.signed then -1 else k.max) n))
  | .not, .b b => some (.b (!b))
  | _, _ => none

/-- A float's bits, of a NaN one. -/
def fval : Option Nat → AV
  | some r => .f .f64 r
  | none => .f .f64 9221120237041090561
def fcmpB (op : BinOp) (c : Option Ordering) : Option Bool :=
  match op with
  | .eql => some (c == some .eq)
  | .neq => some (c != some .eq)
  | .lss => some (c == some .lt)
  | .leq => some (c == some .lt || c == some .eq)
  | .gtr => some (c == some .gt)
  | .geq => some (c == some .gt || c == some .eq)
  | _ => none
def apo : POp → List AV → Option AV
  | .fbin op, [.f .f64 x, .f .f64 y] => match op with
    | .add => some (fval (FloatKind.f64.format.add x y))
    | .sub => some (fval (FloatKind.f64.format.sub x y))
    | .mul => some (fval (FloatKind.f64.format.mul x y))
    | .quo => some (fval (FloatKind.f64.format.div x y))
    | _ => none
  | .fcmp op, [.f .f64 x, .f .f64 y] => match fcmpB op (FloatKind.f64.format.order x y) with
    | some b => some (.b b)
    | none => none
  | .ceq neg, [.c .f64 a b, .c .f64 x y] =>
    let q := FloatKind.f64.format.order a x == some .eq && FloatKind.f64.format.order b y == some .eq
    some (.b (bif neg then !q else q))
  | .fneg, [.f .f64 x] => some (.f .f64 (Op.negFloat .f64 x))
  | .re, [.c .f64 x _] => some (.f .f64 x)
  | .im, [.c .f64 _ y] => some (.f .f64 y)
  | .mk, [.f .f64 x, .f .f64 y] => some (.c .f64 x y)
  | .ofi, [.i _ n] => some (.f .f64 (FloatKind.f64.nearest n))
  | .toi k, [.f .f64 x] => match floatToIntVal .f64 x k with
    | some n => some (.i k n)
    | none => none
  | .fbits, [.f .f64 x] => bif (FloatKind.f64.format.read x).isNaN then none else some (.i .u64 x)
  | .ffrom, [.i .u64 n] => some (.f .f64 n.toNat)
  | .pnil neg, [.p a] => some (.b (bif neg then a.isSome else !a.isSome))
  | .pnil neg, [.vp _] => some (.b neg)
  | _, _ => none

def apart_ (cs : List AV) (off : Nat) : Option Nat → Option AV
  | none => cs[off]?
  | some n => bif Nat.ble (off + n) cs.length then some (.agg ((cs.drop off).take n)) else none

def AX.rd : AX → List Nat
  | .t n => [n]
  | .k _ => []
def AX.ord : Option AX → List Nat
  | none => []
  | some x => x.rd
/-- The temporaries that an operation reads. -/
def AOp.rd : AOp → List Nat
  | .pop _ xs => xs.flatMap AX.rd
  | .mv x | .nchk x | .box _ _ x | .load _ x | .eqnil _ x | .un _ x | .conv _ x | .fadr _ x | .fld _ _ x | .ext x _ | .len _ x => x.rd
  | .pick x y z => x.rd ++ y.rd ++ z.rd
  | .alloc .. => []
  | .build _ ps => ps.flatMap fun p => p.2.2.rd
  | .bslice _ _ _ _ ps => ps.flatMap fun p => p.2.2.rd
  | .store _ x y | .bin _ x y | .eqs _ _ x y | .eqb _ x y | .iadr _ x y | .iadra _ _ x y | .idx _ _ _ x y | .idxs x y | .mks _ _ _ _ x y | .app _ _ _ x y | .mm _ x y => x.rd ++ y.rd
  | .slc _ x lo hi mx => x.rd ++ AX.ord lo ++ AX.ord hi ++ AX.ord mx
  | .mkf _ xs ys => xs.flatMap AX.rd ++ ys.flatMap AX.rd
  | .call _ f xs => f.rd ++ xs.flatMap AX.rd

def inb (i : Int) (n : Nat) : Bool := decide (0 ≤ i) && decide (i < n)

section
variable (O : Orc) (fl : Nat)

def ownAt (h : AHeap) (id : Nat) : Option ABlk :=
  match hget h id with
  | some b => bif b.own && Nat.ble fl id then some b else none
  | none => none

/-- Bound of a slice expression. -/
def abound (fr : List (Nat × AV)) (x : Option AX) (dflt : Nat) (lim : Nat) : Option Nat :=
  match x with
  | none => some dflt
  | some x => match xn fr x with
    | some (.i _ i) => if 0 ≤ i ∧ i ≤ lim then some i.toNat else none
    | _ => none

/-- The floor of a call. -/
def callFl (mode fl n : Nat) : Nat := match mode with | 0 => n + 1 | 1 => n | _ => fl
/-- The cells that are appended: one value in each. -/
def newCells (h : AHeap) (b : Option (Nat × Nat)) (n : Nat) : Option (Nat × List AV) :=
  match b with
  | none => none
  | some (ib, ob) => match hget h ib with
    | none => none
    | some bb => bif Nat.ble (ob + n) bb.cells.length && ((bb.cells.drop ob).take n).all AV.one then some (ib, (bb.cells.drop ob).take n) else none
/-- What is appended: how many, the blocks that are looked at, the cells. -/
def appNew (h : AHeap) (esz : Nat) : AV → Option (Nat × List Nat × List AV)
  | .sl b m _ => bif Nat.beq m 0 then some (0, [], []) else match newCells h b (m * esz) with
    | some (ib, new) => some (m, [ib], new)
    | none => none
  | .vs m _ cs => bif Nat.ble (m * esz) cs.length && (cs.take (m * esz)).all AV.one then some (m, [], cs.take (m * esz)) else none
  | _ => none
def oldCells (h : AHeap) (id o n : Nat) : Option (List AV) :=
  match hget h id with
  | none => none
  | some x => bif Nat.ble (o + n) x.cells.length then some ((x.cells.drop o).take n) else none

/-- Slices of slices: the greatest bound; may it be told; where it begins; its capacity. -/
def pickm (mx : Option AX) (a b : Nat) : Nat := match mx with | none => a | some _ => b
def slcOk : Option AX → ACap → Nat → Nat → Bool
  | none, .op, l, len => Nat.blt l len
  | none, .unk, l, len => Nat.blt l len
  | _, _, _, _ => true
def slcOff (mx : Option AX) (cap : ACap) (esz m l o : Nat) : Nat :=
  match mx with
  | some _ => bif Nat.beq m l then o else o + l * esz
  | none => match cap with
    | .ex c => bif Nat.beq c l then o else o + l * esz
    | _ => o + l * esz
def slcCap (mx : Option AX) (cap : ACap) (m l : Nat) : ACap :=
  match mx with
  | some _ => .ex (m - l)
  | none => match cap with
    | .ex c => .ex (c - l)
    | .op => bif Nat.beq l 0 then .op else .unk
    | .unk => .unk

/-- The capacity of a part of a frozen slice. -/
def slcCapV (mx : Option AX) (cap : ACap) (m l : Nat) : ACap :=
  match mx with
  | some _ => .ex (m - l)
  | none => match cap with
    | .ex c => .ex (c - l)
    | _ => .unk

def evo_mv {ρ : Type} (O : Orc) (fl : Nat) (d : Option Nat) (s : AS) (k : Eff → Foot → Option ρ) (x : AX) : Option ρ := match xv s.fr x with
    | some v => k (.v v s.n) .no
    | none => none
def evo_nchk {ρ : Type} (O : Orc) (fl : Nat) (d : Option Nat) (s : AS) (k : Eff → Foot → Option ρ) (x : AX) : Option ρ := match xv s.fr x with
    | some (.lp t o) => k (.v (.lp t o) s.n) .no
    | some (.p (some a)) => k (.v (.p (some a)) s.n) .no
    | some (.vp cs) => k (.v (.vp cs) s.n) .no
    | _ => none
def evo_pop {ρ : Type} (O : Orc) (fl : Nat) (d : Option Nat) (s : AS) (k : Eff → Foot → Option ρ) (op : POp) (xs : List AX) : Option ρ := match xns s.fr xs with
    | some vs => match apo op vs with
      | some v => k (.v v s.n) .no
      | none => none
    | none => none
def evo_pick {ρ : Type} (O : Orc) (fl : Nat) (d : Option Nat) (s : AS) (k : Eff → Foot → Option ρ) (c : AX) (a : AX) (b : AX) : Option ρ := match xn s.fr c with
    | some (.b true) => match xv s.fr a with
      | some v => k (.v v s.n) .no
      | none => none
    | some (.b false) => match xv s.fr b with
      | some v => k (.v v s.n) .no
      | none => none
    | _ => none
def evo_alloc_true {ρ : Type} (O : Orc) (fl : Nat) (d : Option Nat) (s : AS) (k : Eff → Foot → Option ρ) (_u1 : TypeId) (z : List AV) : Option ρ := match d with
    | some t => match lget s.loc t with
      | none => k ⟨some (.lp t 0), [(t, z)], [], s.n, none⟩ ⟨[t], [], none⟩
      | some _ => none
    | none => none
def evo_alloc_false {ρ : Type} (O : Orc) (fl : Nat) (d : Option Nat) (s : AS) (k : Eff → Foot → Option ρ) (ty : TypeId) (z : List AV) : Option ρ := k ⟨some (.p (some (s.n, 0))), [], [(s.n, some ⟨true, false, ty, z.length, z⟩)], s.n + 1, none⟩ .no
def evo_box_true {ρ : Type} (O : Orc) (fl : Nat) (d : Option Nat) (s : AS) (k : Eff → Foot → Option ρ) (_u1 : TypeId) (x : AX) : Option ρ := match d with
    | some t => match lget s.loc t with
      | none => match xn s.fr x with
        | some v => k ⟨some (.lp t 0), [(t, v.cells)], [], s.n, none⟩ ⟨[t], [], none⟩
        | none => none
      | some _ => none
    | none => none
def evo_box_false {ρ : Type} (O : Orc) (fl : Nat) (d : Option Nat) (s : AS) (k : Eff → Foot → Option ρ) (ty : TypeId) (x : AX) : Option ρ := match xn s.fr x with
    | some v => k ⟨some (.p (some (s.n, 0))), [], [(s.n, some ⟨true, false, ty, v.cells.length, v.cells⟩)], s.n + 1, none⟩ .no
    | none => none
def evo_build {ρ : Type} (O : Orc) (fl : Nat) (d : Option Nat) (s : AS) (k : Eff → Foot → Option ρ) (z : List AV) (ps : List (Nat × Nat × AX)) : Option ρ := match afill (xv s.fr) z ps with
    | some cs => k (.v (.agg cs) s.n) .no
    | none => none
def evo_bslice {ρ : Type} (O : Orc) (fl : Nat) (d : Option Nat) (s : AS) (k : Eff → Foot → Option ρ) (ety : TypeId) (esz : Nat) (len : Nat) (z : List AV) (ps : List (Nat × Nat × AX)) : Option ρ := match afill (xv s.fr) z ps with
    | some cs => k ⟨some (.sl (some (s.n, 0)) len (.ex len)), [], [(s.n, some ⟨true, false, ety, esz, cs⟩)], s.n + 1, none⟩ .no
    | none => none
def evo_load {ρ : Type} (O : Orc) (fl : Nat) (d : Option Nat) (s : AS) (k : Eff → Foot → Option ρ) (sz : Option Nat) (x : AX) : Option ρ := match xv s.fr x with
    | some (.lp t off) => match lget s.loc t with
      | some cs => match apart_ cs off sz with
        | some v => k (.v v s.n) ⟨[t], [], none⟩
        | none => none
      | none => none
    | some (.p (some (id, off))) => match hget s.h id with
      | some b => match apart_ b.cells off sz with
        | some v => k (.v v s.n) ⟨[], [id], none⟩
        | none => none
      | none => none
    | some (.vp cs) => match apart_ cs 0 sz with
      | some v => k (.v v s.n) .no
      | none => none
    | _ => none
def evo_store {ρ : Type} (O : Orc) (fl : Nat) (d : Option Nat) (s : AS) (k : Eff → Foot → Option ρ) (sz : Nat) (x : AX) (y : AX) : Option ρ := match xn s.fr y with
    | some v => bif v.cells.all AV.one && Nat.beq v.cells.length sz then
        match xv s.fr x with
        | some (.lp t off) => match lget s.loc t with
          | some cs => bif Nat.ble (off + sz) cs.length then k ⟨none, [(t, splice cs off v.cells)], [], s.n, none⟩ ⟨[t], [], none⟩ else none
          | none => none
        | some (.p (some (id, off))) => match ownAt fl s.h id with
          | some b => bif Nat.ble (off + sz) b.cells.length then
              k ⟨none, [], [(id, some { b with cells := splice b.cells off v.cells })], s.n, none⟩ ⟨[], [id], none⟩ else none
          | none => none
        | _ => none
      else none
    | none => none
def evo_bin {ρ : Type} (O : Orc) (fl : Nat) (d : Option Nat) (s : AS) (k : Eff → Foot → Option ρ) (op : BinOp) (x : AX) (y : AX) : Option ρ := match xn s.fr x with
    | some a => match xn s.fr y with
      | some b => match abin op a b with
        | some v => k (.v v s.n) .no
        | none => none
      | none => none
    | none => none
def evo_eqs {ρ : Type} (O : Orc) (fl : Nat) (d : Option Nat) (s : AS) (k : Eff → Foot → Option ρ) (neg : Bool) (bs : List Bool) (x : AX) (y : AX) : Option ρ := match xn s.fr x with
    | some (.agg a) => match xn s.fr y with
      | some (.agg b) => match aeqs bs a b with
        | some v => k (.v (.b (bif neg then !v else v)) s.n) .no
        | none => none
      | _ => none
    | _ => none
def evo_eqb {ρ : Type} (O : Orc) (fl : Nat) (d : Option Nat) (s : AS) (k : Eff → Foot → Option ρ) (neg : Bool) (x : AX) (y : AX) : Option ρ := match xn s.fr x with
    | some (.b a) => match xn s.fr y with
      | some (.b b) => k (.v (.b (bif neg then !(a == b) else (a == b))) s.n) .no
      | _ => none
    | _ => none
def evo_eqnil {ρ : Type} (O : Orc) (fl : Nat) (d : Option Nat) (s : AS) (k : Eff → Foot → Option ρ) (neg : Bool) (x : AX) : Option ρ := match xn s.fr x with
    | some (.sl a _ _) => k (.v (.b (bif neg then a.isSome else !a.isSome)) s.n) .no
    | some (.vs len _ _) => bif Nat.blt 0 len then k (.v (.b neg) s.n) .no else none
    | _ => none
def evo_un {ρ : Type} (O : Orc) (fl : Nat) (d : Option Nat) (s : AS) (k : Eff → Foot → Option ρ) (op : UnOp) (x : AX) : Option ρ := match xn s.fr x with
    | some a => match aun op a with
      | some v => k (.v v s.n) .no
      | none => none
    | none => none
def evo_conv {ρ : Type} (O : Orc) (fl : Nat) (d : Option Nat) (s : AS) (k : Eff → Foot → Option ρ) (kd : IntKind) (x : AX) : Option ρ := match xn s.fr x with
    | some (.i _ n) => k (.v (.i kd (kd.wrap n)) s.n) .no
    | _ => none
def evo_fadr {ρ : Type} (O : Orc) (fl : Nat) (d : Option Nat) (s : AS) (k : Eff → Foot → Option ρ) (off : Nat) (x : AX) : Option ρ := match xv s.fr x with
    | some (.lp t o) => k (.v (.lp t (o + off)) s.n) .no
    | some (.p (some (id, o))) => k (.v (.p (some (id, o + off))) s.n) .no
    | some (.vp cs) => k (.v (.vp (cs.drop off)) s.n) .no
    | _ => none
def evo_fld {ρ : Type} (O : Orc) (fl : Nat) (d : Option Nat) (s : AS) (k : Eff → Foot → Option ρ) (off : Nat) (sz : Option Nat) (x : AX) : Option ρ := match xn s.fr x with
    | some (.agg cs) => match apart_ cs off sz with
      | some v => k (.v v s.n) .no
      | none => none
    | _ => none
def evo_iadr {ρ : Type} (O : Orc) (fl : Nat) (d : Option Nat) (s : AS) (k : Eff → Foot → Option ρ) (esz : Nat) (x : AX) (i : AX) : Option ρ := match xn s.fr x with
    | some (.sl (some (id, o)) len _) => match xn s.fr i with
      | some (.i _ j) => bif inb j len then k (.v (.p (some (id, o + j.toNat * esz))) s.n) .no else none
      | _ => none
    | some (.vs len _ cs) => match xn s.fr i with
      | some (.i _ j) => bif inb j len then k (.v (.vp (cs.drop (j.toNat * esz))) s.n) .no else none
      | _ => none
    | _ => none
def evo_iadra {ρ : Type} (O : Orc) (fl : Nat) (d : Option Nat) (s : AS) (k : Eff → Foot → Option ρ) (esz : Nat) (len : Nat) (x : AX) (i : AX) : Option ρ := match xn s.fr i with
    | some (.i _ j) => bif inb j len then
        match xv s.fr x with
        | some (.lp t o) => k (.v (.lp t (o + j.toNat * esz)) s.n) .no
        | some (.p (some (id, o))) => k (.v (.p (some (id, o + j.toNat * esz))) s.n) .no
        | some (.vp cs) => k (.v (.vp (cs.drop (j.toNat * esz))) s.n) .no
        | _ => none
      else none
    | _ => none
def evo_idx {ρ : Type} (O : Orc) (fl : Nat) (d : Option Nat) (s : AS) (k : Eff → Foot → Option ρ) (esz : Nat) (agg : Bool) (len : Nat) (x : AX) (i : AX) : Option ρ := match xn s.fr x with
    | some (.agg cs) => match xn s.fr i with
      | some (.i _ j) => bif inb j len then
          match apart_ cs (j.toNat * esz) (bif agg then some esz else none) with
          | some v => k (.v v s.n) .no
          | none => none
        else none
      | _ => none
    | _ => none
def evo_idxs {ρ : Type} (O : Orc) (fl : Nat) (d : Option Nat) (s : AS) (k : Eff → Foot → Option ρ) (x : AX) (i : AX) : Option ρ := match xn s.fr x with
    | some (.s b) => match xn s.fr i with
      | some (.i _ j) => if 0 ≤ j then
          match b[j.toNat]? with
          | some c => k (.v (.i .u8 c.toNat) s.n) .no
          | none => none
        else none
      | _ => none
    | _ => none
def evo_slc {ρ : Type} (O : Orc) (fl : Nat) (d : Option Nat) (s : AS) (k : Eff → Foot → Option ρ) (esz : Nat) (x : AX) (lo : Option AX) (hi : Option AX) (mx : Option AX) : Option ρ := match xn s.fr x with
    | some (.sl a len cap) =>
      match abound s.fr mx len len with
      | some m => match abound s.fr hi len (pickm mx len m) with
        | some h => match abound s.fr lo 0 h with
          | some l => match a with
            | none => k (.v (.sl none 0 (.ex 0)) s.n) .no
            | some (id, o) => bif slcOk mx cap l len then k (.v (.sl (some (id, slcOff mx cap esz m l o)) (h - l) (slcCap mx cap m l)) s.n) .no else none
          | none => none
        | none => none
      | none => none
    | some (.vs len cap cs) =>
      match abound s.fr mx len len with
      | some m => match abound s.fr hi len (pickm mx len m) with
        | some h => match abound s.fr lo 0 h with
          | some l => k (.v (.vs (h - l) (slcCapV mx cap m l) ((cs.drop (l * esz)).take ((h - l) * esz))) s.n) .no
          | none => none
        | none => none
      | none => none
    | _ => none
def evo_ext {ρ : Type} (O : Orc) (fl : Nat) (d : Option Nat) (s : AS) (k : Eff → Foot → Option ρ) (x : AX) (j : Nat) : Option ρ := match xn s.fr x with
    | some (.tup vs) => match vs[j]? with
      | some v => k (.v v s.n) .no
      | none => none
    | _ => none
def evo_mkf {ρ : Type} (O : Orc) (fl : Nat) (d : Option Nat) (s : AS) (k : Eff → Foot → Option ρ) (f : Fn) (first : List AX) (cap : List AX) : Option ρ := match xns s.fr first with
    | some a => match xns s.fr cap with
      | some c => k (.v (.fn f a c) s.n) .no
      | none => none
    | none => none
def evo_mks {ρ : Type} (O : Orc) (fl : Nat) (d : Option Nat) (s : AS) (k : Eff → Foot → Option ρ) (ety : TypeId) (esz : Nat) (bytes : Nat) (z : List AV) (len : AX) (cap : AX) : Option ρ := match xn s.fr len with
    | some (.i _ l) => match xn s.fr cap with
      | some (.i _ c) => if 0 ≤ l ∧ l ≤ c ∧ (bytes : Int) * c ≤ 2 ^ 47 ∧ c < 2 ^ 62 then
          k ⟨some (.sl (some (s.n, 0)) l.toNat (.ex c.toNat)), [], [(s.n, some ⟨true, false, ety, esz, (List.replicate c.toNat z).flatten⟩)], s.n + 1, none⟩ .no
        else none
      | _ => none
    | _ => none
def evo_call {ρ : Type} (O : Orc) (fl : Nat) (d : Option Nat) (s : AS) (k : Eff → Foot → Option ρ) (mode : Nat) (f : AX) (args : List AX) : Option ρ := match xn s.fr f with
    | some (.fn (.func g) first cap) => match xns s.fr args with
      | some as => match O g (first ++ as ++ cap) s.h s.n (callFl mode fl s.n) with
        | none => none
        | some (v, none) => bif v.islp then none else k (.v v s.n) ⟨[], [], some (s.n, [])⟩
        | some (v, some (h', n')) => bif v.islp then none else match mode with
          | 0 => bif AV.old s.n v then k (.v v n') ⟨[], [], some (s.n, [])⟩ else none
          | 1 => k ⟨some v, [], (hnew h' s.n).map fun p => (p.1, some p.2), n', none⟩ ⟨[], [], some (s.n, [])⟩
          | _ => k ⟨some v, [], [], n', some h'⟩ ⟨[], [], some (s.n, [])⟩
      | none => none
    | _ => none
def evo_len_false {ρ : Type} (O : Orc) (fl : Nat) (d : Option Nat) (s : AS) (k : Eff → Foot → Option ρ) (x : AX) : Option ρ := match xn s.fr x with
    | some (.sl _ n _) => k (.v (.i .i64 n) s.n) .no
    | some (.vs n _ _) => k (.v (.i .i64 n) s.n) .no
    | _ => none
def evo_len_true {ρ : Type} (O : Orc) (fl : Nat) (d : Option Nat) (s : AS) (k : Eff → Foot → Option ρ) (x : AX) : Option ρ := match xn s.fr x with
    | some (.s b) => k (.v (.i .i64 b.size) s.n) .no
    | _ => none
def evo_app {ρ : Type} (O : Orc) (fl : Nat) (d : Option Nat) (s : AS) (k : Eff → Foot → Option ρ) (ety : TypeId) (esz : Nat) (bytes : Nat) (x : AX) (y : AX) : Option ρ := match xn s.fr x with
    | some xv => match xn s.fr y with
      | some yv => match appNew s.h esz yv with
        | some (m, ib, new) => match xv with
          | .sl a n cap => bif Nat.beq m 0 then k (.v (.sl a n cap) s.n) .no else
            bif Nat.ble ((n + m) * bytes) 140737488355328 then
              match a with
              | none => k ⟨some (.sl (some (s.n, 0)) m .op), [], [(s.n, some ⟨true, true, ety, esz, new⟩)], s.n + 1, none⟩ ⟨[], ib, none⟩
              | some (id, o) => match cap with
                | .ex c => bif Nat.ble (n + m) c then
                    match ownAt fl s.h id with
                    | some x => bif Nat.beq o 0 && Nat.beq x.ty ety && Nat.ble ((n + m) * esz) x.cells.length then
                        k ⟨some (.sl (some (id, o)) (n + m) (.ex c)), [], [(id, some { x with cells := splice x.cells (n * esz) new })], s.n, none⟩ ⟨[], id :: ib, none⟩
                      else none
                    | none => none
                  else match oldCells s.h id o (n * esz) with
                    | some olds => k ⟨some (.sl (some (s.n, 0)) (n + m) .op), [], [(s.n, some ⟨true, true, ety, esz, olds ++ new⟩)], s.n + 1, none⟩ ⟨[], id :: ib, none⟩
                    | none => none
                | .op => match ownAt fl s.h id with
                  | some x => bif x.opn && Nat.beq x.ty ety && Nat.beq (n * esz) x.cells.length then
                      k ⟨some (.sl (some (s.n, 0)) (n + m) .op), [], [(id, none), (s.n, some ⟨true, true, ety, esz, x.cells ++ new⟩)], s.n + 1, none⟩ ⟨[], id :: ib, none⟩
                    else none
                  | none => none
                | .unk => none
            else none
          | .vs n cap cs => bif Nat.beq m 0 then k (.v (.vs n cap cs) s.n) .no else
            match cap with
            | .ex c => bif Nat.ble ((n + m) * bytes) 140737488355328 && Nat.blt c (n + m) && Nat.ble (n * esz) cs.length then
                k ⟨some (.sl (some (s.n, 0)) (n + m) .op), [], [(s.n, some ⟨true, true, ety, esz, cs.take (n * esz) ++ new⟩)], s.n + 1, none⟩ ⟨[], ib, none⟩
              else none
            | _ => none
          | _ => none
        | none => none
      | none => none
    | none => none
def evo_mm {ρ : Type} (O : Orc) (fl : Nat) (d : Option Nat) (s : AS) (k : Eff → Foot → Option ρ) (mx : Bool) (x : AX) (y : AX) : Option ρ := match xn s.fr x with
    | some (.i k1 a) => match xn s.fr y with
      | some (.i _ b) => k (.v (.i k1 (bif mx then (if b > a then b else a) else (if b < a then b else a))) s.n) .no
      | _ => none
    | _ => none
/-- One operation; 'd': the temporary that it fills. -/
def evOp {ρ : Type} (d : Option Nat) (o : AOp) (s : AS) (k : Eff → Foot → Option ρ) : Option ρ :=
  match o with
  | .mv x => evo_mv O fl d s k x
  | .nchk x => evo_nchk O fl d s k x
  | .pop op xs => evo_pop O fl d s k op xs
  | .pick c a b => evo_pick O fl d s k c a b
  | .alloc true _u1 z => evo_alloc_true O fl d s k _u1 z
  | .alloc false ty z => evo_alloc_false O fl d s k ty z
  | .box true _u1 x => evo_box_true O fl d s k _u1 x
  | .box false ty x => evo_box_false O fl d s k ty x
  | .build z ps => evo_build O fl d s k z ps
  | .bslice ety esz len z ps => evo_bslice O fl d s k ety esz len z ps
  | .load sz x => evo_load O fl d s k sz x
  | .store sz x y => evo_store O fl d s k sz x y
  | .bin op x y => evo_bin O fl d s k op x y
  | .eqs neg bs x y => evo_eqs O fl d s k neg bs x y
  | .eqb neg x y => evo_eqb O fl d s k neg x y
  | .eqnil neg x => evo_eqnil O fl d s k neg x
  | .un op x => evo_un O fl d s k op x
  | .conv kd x => evo_conv O fl d s k kd x
  | .fadr off x => evo_fadr O fl d s k off x
  | .fld off sz x => evo_fld O fl d s k off sz x
  | .iadr esz x i => evo_iadr O fl d s k esz x i
  | .iadra esz len x i => evo_iadra O fl d s k esz len x i
  | .idx esz agg len x i => evo_idx O fl d s k esz agg len x i
  | .idxs x i => evo_idxs O fl d s k x i
  | .slc esz x lo hi mx => evo_slc O fl d s k esz x lo hi mx
  | .ext x j => evo_ext O fl d s k x j
  | .mkf f first cap => evo_mkf O fl d s k f first cap
  | .mks ety esz bytes z len cap => evo_mks O fl d s k ety esz bytes z len cap
  | .call mode f args => evo_call O fl d s k mode f args
  | .len false x => evo_len_false O fl d s k x
  | .len true x => evo_len_true O fl d s k x
  | .app ety esz bytes x y => evo_app O fl d s k ety esz bytes x y
  | .mm mx x y => evo_mm O fl d s k mx x y
theorem evOp_mv {ρ : Type} {O : Orc} {fl : Nat} {d : Option Nat} {s : AS} {k : Eff → Foot → Option ρ} (x : AX) : evOp O fl d (.mv x) s k = ( match xv s.fr x with
    | some v => k (.v v s.n) .no
    | none => none) := rfl
theorem evOp_nchk {ρ : Type} {O : Orc} {fl : Nat} {d : Option Nat} {s : AS} {k : Eff → Foot → Option ρ} (x : AX) : evOp O fl d (.nchk x) s k = ( match xv s.fr x with
    | some (.lp t o) => k (.v (.lp t o) s.n) .no
    | some (.p (some a)) => k (.v (.p (some a)) s.n) .no
    | some (.vp cs) => k (.v (.vp cs) s.n) .no
    | _ => none) := rfl
theorem evOp_pop {ρ : Type} {O : Orc} {fl : Nat} {d : Option Nat} {s : AS} {k : Eff → Foot → Option ρ} (op : POp) (xs : List AX) : evOp O fl d (.pop op xs) s k = ( match xns s.fr xs with
    | some vs => match apo op vs with
      | some v => k (.v v s.n) .no
      | none => none
    | none => none) := rfl
theorem evOp_pick {ρ : Type} {O : Orc} {fl : Nat} {d : Option Nat} {s : AS} {k : Eff → Foot → Option ρ} (c : AX) (a : AX) (b : AX) : evOp O fl d (.pick c a b) s k = ( match xn s.fr c with
    | some (.b true) => match xv s.fr a with
      | some v => k (.v v s.n) .no
      | none => none
    | some (.b false) => match xv s.fr b with
      | some v => k (.v v s.n) .no
      | none => none
    | _ => none) := rfl
theorem evOp_alloc_true {ρ : Type} {O : Orc} {fl : Nat} {d : Option Nat} {s : AS} {k : Eff → Foot → Option ρ} (_u1 : TypeId) (z : List AV) : evOp O fl d (.alloc true _u1 z) s k = ( match d with
    | some t => match lget s.loc t with
      | none => k ⟨some (.lp t 0), [(t, z)], [], s.n, none⟩ ⟨[t], [], none⟩
      | some _ => none
    | none => none) := rfl
theorem evOp_alloc_false {ρ : Type} {O : Orc} {fl : Nat} {d : Option Nat} {s : AS} {k : Eff → Foot → Option ρ} (ty : TypeId) (z : List AV) : evOp O fl d (.alloc false ty z) s k = ( k ⟨some (.p (some (s.n, 0))), [], [(s.n, some ⟨true, false, ty, z.length, z⟩)], s.n + 1, none⟩ .no) := rfl
theorem evOp_box_true {ρ : Type} {O : Orc} {fl : Nat} {d : Option Nat} {s : AS} {k : Eff → Foot → Option ρ} (_u1 : TypeId) (x : AX) : evOp O fl d (.box true _u1 x) s k = ( match d with
    | some t => match lget s.loc t with
      | none => match xn s.fr x with
        | some v => k ⟨some (.lp t 0), [(t, v.cells)], [], s.n, none⟩ ⟨[t], [], none⟩
        | none => none
      | some _ => none
    | none => none) := rfl
theorem evOp_box_false {ρ : Type} {O : Orc} {fl : Nat} {d : Option Nat} {s : AS} {k : Eff → Foot → Option ρ} (ty : TypeId) (x : AX) : evOp O fl d (.box false ty x) s k = ( match xn s.fr x with
    | some v => k ⟨some (.p (some (s.n, 0))), [], [(s.n, some ⟨true, false, ty, v.cells.length, v.cells⟩)], s.n + 1, none⟩ .no
    | none => none) := rfl
theorem evOp_build {ρ : Type} {O : Orc} {fl : Nat} {d : Option Nat} {s : AS} {k : Eff → Foot → Option ρ} (z : List AV) (ps : List (Nat × Nat × AX)) : evOp O fl d (.build z ps) s k = ( match afill (xv s.fr) z ps with
    | some cs => k (.v (.agg cs) s.n) .no
    | none => none) := rfl
theorem evOp_bslice {ρ : Type} {O : Orc} {fl : Nat} {d : Option Nat} {s : AS} {k : Eff → Foot → Option ρ} (ety : TypeId) (esz : Nat) (len : Nat) (z : List AV) (ps : List (Nat × Nat × AX)) : evOp O fl d (.bslice ety esz len z ps) s k = ( match afill (xv s.fr) z ps with
    | some cs => k ⟨some (.sl (some (s.n, 0)) len (.ex len)), [], [(s.n, some ⟨true, false, ety, esz, cs⟩)], s.n + 1, none⟩ .no
    | none => none) := rfl
theorem evOp_load {ρ : Type} {O : Orc} {fl : Nat} {d : Option Nat} {s : AS} {k : Eff → Foot → Option ρ} (sz : Option Nat) (x : AX) : evOp O fl d (.load sz x) s k = ( match xv s.fr x with
    | some (.lp t off) => match lget s.loc t with
      | some cs => match apart_ cs off sz with
        | some v => k (.v v s.n) ⟨[t], [], none⟩
        | none => none
      | none => none
    | some (.p (some (id, off))) => match hget s.h id with
      | some b => match apart_ b.cells off sz with
        | some v => k (.v v s.n) ⟨[], [id], none⟩
        | none => none
      | none => none
    | some (.vp cs) => match apart_ cs 0 sz with
      | some v => k (.v v s.n) .no
      | none => none
    | _ => none) := rfl
theorem evOp_store {ρ : Type} {O : Orc} {fl : Nat} {d : Option Nat} {s : AS} {k : Eff → Foot → Option ρ} (sz : Nat) (x : AX) (y : AX) : evOp O fl d (.store sz x y) s k = ( match xn s.fr y with
    | some v => bif v.cells.all AV.one && Nat.beq v.cells.length sz then
        match xv s.fr x with
        | some (.lp t off) => match lget s.loc t with
          | some cs => bif Nat.ble (off + sz) cs.length then k ⟨none, [(t, splice cs off v.cells)], [], s.n, none⟩ ⟨[t], [], none⟩ else none
          | none => none
        | some (.p (some (id, off))) => match ownAt fl s.h id with
          | some b => bif Nat.ble (off + sz) b.cells.length then
              k ⟨none, [], [(id, some { b with cells := splice b.cells off v.cells })], s.n, none⟩ ⟨[], [id], none⟩ else none
          | none => none
        | _ => none
      else none
    | none => none) := rfl
theorem evOp_bin {ρ : Type} {O : Orc} {fl : Nat} {d : Option Nat} {s : AS} {k : Eff → Foot → Option ρ} (op : BinOp) (x : AX) (y : AX) : evOp O fl d (.bin op x y) s k = ( match xn s.fr x with
    | some a => match xn s.fr y with
      | some b => match abin op a b with
        | some v => k (.v v s.n) .no
        | none => none
      | none => none
    | none => none) := rfl
theorem evOp_eqs {ρ : Type} {O : Orc} {fl : Nat} {d : Option Nat} {s : AS} {k : Eff → Foot → Option ρ} (neg : Bool) (bs : List Bool) (x : AX) (y : AX) : evOp O fl d (.eqs neg bs x y) s k = ( match xn s.fr x with
    | some (.agg a) => match xn s.fr y with
      | some (.agg b) => match aeqs bs a b with
        | some v => k (.v (.b (bif neg then !v else v)) s.n) .no
        | none => none
      | _ => none
    | _ => none) := rfl
theorem evOp_eqb {ρ : Type} {O : Orc} {fl : Nat} {d : Option Nat} {s : AS} {k : Eff → Foot → Option ρ} (neg : Bool) (x : AX) (y : AX) : evOp O fl d (.eqb neg x y) s k = ( match xn s.fr x with
    | some (.b a) => match xn s.fr y with
      | some (.b b) => k (.v (.b (bif neg then !(a == b) else (a == b))) s.n) .no
      | _ => none
    | _ => none) := rfl
theorem evOp_eqnil {ρ : Type} {O : Orc} {fl : Nat} {d : Option Nat} {s : AS} {k : Eff → Foot → Option ρ} (neg : Bool) (x : AX) : evOp O fl d (.eqnil neg x) s k = ( match xn s.fr x with
    | some (.sl a _ _) => k (.v (.b (bif neg then a.isSome else !a.isSome)) s.n) .no
    | some (.vs len _ _) => bif Nat.blt 0 len then k (.v (.b neg) s.n) .no else none
    | _ => none) := rfl
theorem evOp_un {ρ : Type} {O : Orc} {fl : Nat} {d : Option Nat} {s : AS} {k : Eff → Foot → Option ρ} (op : UnOp) (x : AX) : evOp O fl d (.un op x) s k = ( match xn s.fr x with
    | some a => match aun op a with
      | some v => k (.v v s.n) .no
      | none => none
    | none => none) := rfl
theorem evOp_conv {ρ : Type} {O : Orc} {fl : Nat} {d : Option Nat} {s : AS} {k : Eff → Foot → Option ρ} (kd : IntKind) (x : AX) : evOp O fl d (.conv kd x) s k = ( match xn s.fr x with
    | some (.i _ n) => k (.v (.i kd (kd.wrap n)) s.n) .no
    | _ => none) := rfl
theorem evOp_fadr {ρ : Type} {O : Orc} {fl : Nat} {d : Option Nat} {s : AS} {k : Eff → Foot → Option ρ} (off : Nat) (x : AX) : evOp O fl d (.fadr off x) s k = ( match xv s.fr x with
    | some (.lp t o) => k (.v (.lp t (o + off)) s.n) .no
    | some (.p (some (id, o))) => k (.v (.p (some (id, o + off))) s.n) .no
    | some (.vp cs) => k (.v (.vp (cs.drop off)) s.n) .no
    | _ => none) := rfl
theorem evOp_fld {ρ : Type} {O : Orc} {fl : Nat} {d : Option Nat} {s : AS} {k : Eff → Foot → Option ρ} (off : Nat) (sz : Option Nat) (x : AX) : evOp O fl d (.fld off sz x) s k = ( match xn s.fr x with
    | some (.agg cs) => match apart_ cs off sz with
      | some v => k (.v v s.n) .no
      | none => none
    | _ => none) := rfl
theorem evOp_iadr {ρ : Type} {O : Orc} {fl : Nat} {d : Option Nat} {s : AS} {k : Eff → Foot → Option ρ} (esz : Nat) (x : AX) (i : AX) : evOp O fl d (.iadr esz x i) s k = ( match xn s.fr x with
    | some (.sl (some (id, o)) len _) => match xn s.fr i with
      | some (.i _ j) => bif inb j len then k (.v (.p (some (id, o + j.toNat * esz))) s.n) .no else none
      | _ => none
    | some (.vs len _ cs) => match xn s.fr i with
      | some (.i _ j) => bif inb j len then k (.v (.vp (cs.drop (j.toNat * esz))) s.n) .no else none
      | _ => none
    | _ => none) := rfl
theorem evOp_iadra {ρ : Type} {O : Orc} {fl : Nat} {d : Option Nat} {s : AS} {k : Eff → Foot → Option ρ} (esz : Nat) (len : Nat) (x : AX) (i : AX) : evOp O fl d (.iadra esz len x i) s k = ( match xn s.fr i with
    | some (.i _ j) => bif inb j len then
        match xv s.fr x with
        | some (.lp t o) => k (.v (.lp t (o + j.toNat * esz)) s.n) .no
        | some (.p (some (id, o))) => k (.v (.p (some (id, o + j.toNat * esz))) s.n) .no
        | some (.vp cs) => k (.v (.vp (cs.drop (j.toNat * esz))) s.n) .no
        | _ => none
      else none
    | _ => none) := rfl
theorem evOp_idx {ρ : Type} {O : Orc} {fl : Nat} {d : Option Nat} {s : AS} {k : Eff → Foot → Option ρ} (esz : Nat) (agg : Bool) (len : Nat) (x : AX) (i : AX) : evOp O fl d (.idx esz agg len x i) s k = ( match xn s.fr x with
    | some (.agg cs) => match xn s.fr i with
      | some (.i _ j) => bif inb j len then
          match apart_ cs (j.toNat * esz) (bif agg then some esz else none) with
          | some v => k (.v v s.n) .no
          | none => none
        else none
      | _ => none
    | _ => none) := rfl
theorem evOp_idxs {ρ : Type} {O : Orc} {fl : Nat} {d : Option Nat} {s : AS} {k : Eff → Foot → Option ρ} (x : AX) (i : AX) : evOp O fl d (.idxs x i) s k = ( match xn s.fr x with
    | some (.s b) => match xn s.fr i with
      | some (.i _ j) => if 0 ≤ j then
          match b[j.toNat]? with
          | some c => k (.v (.i .u8 c.toNat) s.n) .no
          | none => none
        else none
      | _ => none
    | _ => none) := rfl
theorem evOp_slc {ρ : Type} {O : Orc} {fl : Nat} {d : Option Nat} {s : AS} {k : Eff → Foot → Option ρ} (esz : Nat) (x : AX) (lo : Option AX) (hi : Option AX) (mx : Option AX) : evOp O fl d (.slc esz x lo hi mx) s k = ( match xn s.fr x with
    | some (.sl a len cap) =>
      match abound s.fr mx len len with
      | some m => match abound s.fr hi len (pickm mx len m) with
        | some h => match abound s.fr lo 0 h with
          | some l => match a with
            | none => k (.v (.sl none 0 (.ex 0)) s.n) .no
            | some (id, o) => bif slcOk mx cap l len then k (.v (.sl (some (id, slcOff mx cap esz m l o)) (h - l) (slcCap mx cap m l)) s.n) .no else none
          | none => none
        | none => none
      | none => none
    | some (.vs len cap cs) =>
      match abound s.fr mx len len with
      | some m => match abound s.fr hi len (pickm mx len m) with
        | some h => match abound s.fr lo 0 h with
          | some l => k (.v (.vs (h - l) (slcCapV mx cap m l) ((cs.drop (l * esz)).take ((h - l) * esz))) s.n) .no
          | none => none
        | none => none
      | none => none
    | _ => none) := rfl
theorem evOp_ext {ρ : Type} {O : Orc} {fl : Nat} {d : Option Nat} {s : AS} {k : Eff → Foot → Option ρ} (x : AX) (j : Nat) : evOp O fl d (.ext x j) s k = ( match xn s.fr x with
    | some (.tup vs) => match vs[j]? with
      | some v => k (.v v s.n) .no
      | none => none
    | _ => none) := rfl
theorem evOp_mkf {ρ : Type} {O : Orc} {fl : Nat} {d : Option Nat} {s : AS} {k : Eff → Foot → Option ρ} (f : Fn) (first : List AX) (cap : List AX) : evOp O fl d (.mkf f first cap) s k = ( match xns s.fr first with
    | some a => match xns s.fr cap with
      | some c => k (.v (.fn f a c) s.n) .no
      | none => none
    | none => none) := rfl
theorem evOp_mks {ρ : Type} {O : Orc} {fl : Nat} {d : Option Nat} {s : AS} {k : Eff → Foot → Option ρ} (ety : TypeId) (esz : Nat) (bytes : Nat) (z : List AV) (len : AX) (cap : AX) : evOp O fl d (.mks ety esz bytes z len cap) s k = ( match xn s.fr len with
    | some (.i _ l) => match xn s.fr cap with
      | some (.i _ c) => if 0 ≤ l ∧ l ≤ c ∧ (bytes : Int) * c ≤ 2 ^ 47 ∧ c < 2 ^ 62 then
          k ⟨some (.sl (some (s.n, 0)) l.toNat (.ex c.toNat)), [], [(s.n, some ⟨true, false, ety, esz, (List.replicate c.toNat z).flatten⟩)], s.n + 1, none⟩ .no
        else none
      | _ => none
    | _ => none) := rfl
theorem evOp_call {ρ : Type} {O : Orc} {fl : Nat} {d : Option Nat} {s : AS} {k : Eff → Foot → Option ρ} (mode : Nat) (f : AX) (args : List AX) : evOp O fl d (.call mode f args) s k = ( match xn s.fr f with
    | some (.fn (.func g) first cap) => match xns s.fr args with
      | some as => match O g (first ++ as ++ cap) s.h s.n (callFl mode fl s.n) with
        | none => none
        | some (v, none) => bif v.islp then none else k (.v v s.n) ⟨[], [], some (s.n, [])⟩
        | some (v, some (h', n')) => bif v.islp then none else match mode with
          | 0 => bif AV.old s.n v then k (.v v n') ⟨[], [], some (s.n, [])⟩ else none
          | 1 => k ⟨some v, [], (hnew h' s.n).map fun p => (p.1, some p.2), n', none⟩ ⟨[], [], some (s.n, [])⟩
          | _ => k ⟨some v, [], [], n', some h'⟩ ⟨[], [], some (s.n, [])⟩
      | none => none
    | _ => none) := rfl
theorem evOp_len_false {ρ : Type} {O : Orc} {fl : Nat} {d : Option Nat} {s : AS} {k : Eff → Foot → Option ρ} (x : AX) : evOp O fl d (.len false x) s k = ( match xn s.fr x with
    | some (.sl _ n _) => k (.v (.i .i64 n) s.n) .no
    | some (.vs n _ _) => k (.v (.i .i64 n) s.n) .no
    | _ => none) := rfl
theorem evOp_len_true {ρ : Type} {O : Orc} {fl : Nat} {d : Option Nat} {s : AS} {k : Eff → Foot → Option ρ} (x : AX) : evOp O fl d (.len true x) s k = ( match xn s.fr x with
    | some (.s b) => k (.v (.i .i64 b.size) s.n) .no
    | _ => none) := rfl
theorem evOp_app {ρ : Type} {O : Orc} {fl : Nat} {d : Option Nat} {s : AS} {k : Eff → Foot → Option ρ} (ety : TypeId) (esz : Nat) (bytes : Nat) (x : AX) (y : AX) : evOp O fl d (.app ety esz bytes x y) s k = ( match xn s.fr x with
    | some xv => match xn s.fr y with
      | some yv => match appNew s.h esz yv with
        | some (m, ib, new) => match xv with
          | .sl a n cap => bif Nat.beq m 0 then k (.v (.sl a n cap) s.n) .no else
            bif Nat.ble ((n + m) * bytes) 140737488355328 then
              match a with
              | none => k ⟨some (.sl (some (s.n, 0)) m .op), [], [(s.n, some ⟨true, true, ety, esz, new⟩)], s.n + 1, none⟩ ⟨[], ib, none⟩
              | some (id, o) => match cap with
                | .ex c => bif Nat.ble (n + m) c then
                    match ownAt fl s.h id with
                    | some x => bif Nat.beq o 0 && Nat.beq x.ty ety && Nat.ble ((n + m) * esz) x.cells.length then
                        k ⟨some (.sl (some (id, o)) (n + m) (.ex c)), [], [(id, some { x with cells := splice x.cells (n * esz) new })], s.n, none⟩ ⟨[], id :: ib, none⟩
                      else none
                    | none => none
                  else match oldCells s.h id o (n * esz) with
                    | some olds => k ⟨some (.sl (some (s.n, 0)) (n + m) .op), [], [(s.n, some ⟨true, true, ety, esz, olds ++ new⟩)], s.n + 1, none⟩ ⟨[], id :: ib, none⟩
                    | none => none
                | .op => match ownAt fl s.h id with
                  | some x => bif x.opn && Nat.beq x.ty ety && Nat.beq (n * esz) x.cells.length then
                      k ⟨some (.sl (some (s.n, 0)) (n + m) .op), [], [(id, none), (s.n, some ⟨true, true, ety, esz, x.cells ++ new⟩)], s.n + 1, none⟩ ⟨[], id :: ib, none⟩
                    else none
                  | none => none
                | .unk => none
            else none
          | .vs n cap cs => bif Nat.beq m 0 then k (.v (.vs n cap cs) s.n) .no else
            match cap with
            | .ex c => bif Nat.ble ((n + m) * bytes) 140737488355328 && Nat.blt c (n + m) && Nat.ble (n * esz) cs.length then
                k ⟨some (.sl (some (s.n, 0)) (n + m) .op), [], [(s.n, some ⟨true, true, ety, esz, cs.take (n * esz) ++ new⟩)], s.n + 1, none⟩ ⟨[], ib, none⟩
              else none
            | _ => none
          | _ => none
        | none => none
      | none => none
    | none => none) := rfl
theorem evOp_mm {ρ : Type} {O : Orc} {fl : Nat} {d : Option Nat} {s : AS} {k : Eff → Foot → Option ρ} (mx : Bool) (x : AX) (y : AX) : evOp O fl d (.mm mx x y) s k = ( match xn s.fr x with
    | some (.i k1 a) => match xn s.fr y with
      | some (.i _ b) => k (.v (.i k1 (bif mx then (if b > a then b else a) else (if b < a then b else a))) s.n) .no
      | _ => none
    | _ => none) := rfl

def hlook (l : List (Nat × Option ABlk)) (id : Nat) : Option (Option ABlk) := List.rec none (fun p _ ih => bif Nat.beq p.1 id then some p.2 else ih) l
theorem hlook_nl {id : Nat} : hlook [] id = none := rfl
theorem hlook_cns {k id : Nat} {b : Option ABlk} {r : List (Nat × Option ABlk)} : hlook ((k, b) :: r) id = bif Nat.beq k id then some b else hlook r id := rfl
def happly (h : AHeap) : List (Nat × Option ABlk) → AHeap
  | [] => h
  | (id, none) :: r => hdel (happly h r) id
  | (id, some b) :: r => match hget (happly h r) id with
    | some _ => hput (happly h r) id b
    | none => (id, b) :: happly h r
def fput (fr : List (Nat × AV)) (d : Option Nat) (v : Option AV) : List (Nat × AV) :=
  match d, v with
  | none, _ => fr
  | some t, some v => (t, v) :: fr
  | some t, none => fdel fr t
def AS.put (s : AS) (d : Option Nat) (e : Eff) : AS :=
  ⟨fput s.fr d e.val, e.loc ++ s.loc, match e.all with | some h => h | none => happly s.h e.hp, e.n⟩
def AS.undef (s : AS) (d : Option Nat) : AS := { s with fr := fput s.fr d (some (.tup [])) }

/-- A region whose operations go in the order of the text. -/
def evOps : List AOper → AS → (AS → Option Res) → Option Res
  | [], s, k => k s
  | o :: r, s, k =>
    match o.guard with
    | none => evOp O fl o.dst o.op s fun e _ => evOps r (s.put o.dst e) k
    | some (t, w) => match fget s.fr t with
      | some (.b true) => bif w then evOp O fl o.dst o.op s fun e _ => evOps r (s.put o.dst e) k else evOps r (s.undef o.dst) k
      | some (.b false) => bif w then evOps r (s.undef o.dst) k else evOp O fl o.dst o.op s fun e _ => evOps r (s.put o.dst e) k
      | some (.tup []) => evOps r (s.undef o.dst) k
      | _ => none

/-! ### A region that draws its order -/
/-- What is kept of an operation: its number, what it looked at, what it changed. -/
structure Rec where
  no : Nat
  foot : Foot
  dst : Option Nat
  eff : Eff
/-- Slots and blocks that it changes. -/
def Rec.wl (r : Rec) : List Nat := r.eff.loc.map (·.1)
def Rec.wh (r : Rec) : List Nat := r.eff.hp.map (·.1)
def Foot.meets (f : Foot) (wl wh : List Nat) : Bool :=
  wl.any (fun x => f.locs.elem x) || wh.any (fun x => f.hps.elem x || match f.lim with | none => false | some (n, hid) => Nat.blt x n && !hid.elem x)
/-- May two operations go in either order? -/
def Rec.apart (a b : Rec) : Bool :=
  !(a.foot.meets b.wl b.wh) && !(b.foot.meets a.wl a.wh) && !(a.wl.any fun x => b.wl.elem x) && !(a.wh.any fun x => b.wh.elem x)
/-- Is the operation apart from all earlier ones that need not be ahead of it? -/
def apartAll (bef : Nat) (x : Rec) : List Rec → Bool
  | [] => true
  | r :: rs => (bef.testBit r.no || x.apart r) && apartAll bef x rs
/-- The blocks that earlier operations have changed that need not be ahead. -/
def hidden (bef : Nat) : List Rec → List Nat
  | [] => []
  | r :: rs => bif bef.testBit r.no then hidden bef rs else r.wh ++ hidden bef rs
def Foot.hide (f : Foot) (n : Nat) (l : List Nat) : Foot := match f.lim with
  | none => f
  | some _ => ⟨f.locs, f.hps, some (n, l)⟩

def evDraw : Nat → List AOper → AS → List Rec → (AS → Option Res) → Option Res
  | _, [], s, _, k => k s
  | j, o :: r, s, rs, k =>
    let go : Option Res :=
      evOp O fl o.dst o.op { s with h := hhide (hidden o.bef rs) s.h } fun e f =>
        match e.all with
        | some _ => none
        | none =>
          let x : Rec := ⟨j, f.hide s.n (hidden o.bef rs), o.dst, e⟩
          bif apartAll o.bef x rs then evDraw (j + 1) r (s.put o.dst e) (x :: rs) k else none
    match o.guard with
    | none => go
    | some (t, w) => match fget s.fr t with
      | some (.b true) => bif w then go else evDraw (j + 1) r (s.undef o.dst) (⟨j, .no, o.dst, ⟨some (.tup []), [], [], s.n, none⟩⟩ :: rs) k
      | some (.b false) => bif w then evDraw (j + 1) r (s.undef o.dst) (⟨j, .no, o.dst, ⟨some (.tup []), [], [], s.n, none⟩⟩ :: rs) k else go
      | some (.tup []) => evDraw (j + 1) r (s.undef o.dst) (⟨j, .no, o.dst, ⟨some (.tup []), [], [], s.n, none⟩⟩ :: rs) k
      | _ => none

/-! ### Code -/
inductive AE where
  | nrm | ex (id : Nat) | ret

/-- Some temporaries and slots alone. -/
def keepT (fr : List (Nat × AV)) : List Nat → List (Nat × AV)
  | [] => []
  | t :: r => match fget fr t with
    | some v => (t, v) :: keepT fr r
    | none => keepT fr r
def keepL (loc : List (Nat × List AV)) : List Nat → List (Nat × List AV)
  | [] => []
  | t :: r => match lget loc t with
    | some v => (t, v) :: keepL loc r
    | none => keepL loc r
def lpOk (loc : List (Nat × List AV)) : List (Nat × AV) → Bool
  | [] => true
  | (_, .lp s _) :: r => (lget loc s).isSome && lpOk loc r
  | _ :: r => lpOk loc r
def AS.keep (s : AS) (ts ls : List Nat) : Option AS :=
  let fr := keepT s.fr ts
  let loc := keepL s.loc ls
  bif lpOk loc fr then some { s with fr, loc } else none

mutual
/-- The numbers from 'base' on that a value names, in order, the last first. -/
def AV.ids (base : Nat) : AV → List Nat → List Nat
  | .p (some (id, _)), l => bif Nat.ble base id && !l.elem id then id :: l else l
  | .sl (some (id, _)) _ _, l => bif Nat.ble base id && !l.elem id then id :: l else l
  | .fn _ x y, l => AV.idss base y (AV.idss base x l)
  | .agg cs, l => AV.idss base cs l
  | .tup cs, l => AV.idss base cs l
  | .vs _ _ cs, l => AV.idss base cs l
  | .vp cs, l => AV.idss base cs l
  | _, l => l
def AV.idss (base : Nat) : List AV → List Nat → List Nat
  | [], l => l
  | x :: xs, l => AV.idss base xs (AV.ids base x l)
end
/-- The place of a number in a list. -/
def posOf (id : Nat) : List Nat → Option Nat
  | [] => none
  | x :: l => bif Nat.beq x id then some 0 else match posOf id l with
    | some j => some (j + 1)
    | none => none
/-- A new number: 'none' if there is none. -/
def newId (base nb : Nat) (l : List Nat) (id : Nat) : Option Nat :=
  bif Nat.ble base id then match posOf id l with
    | some j => some (nb + j)
    | none => none
  else some id
mutual
def AV.ren (base nb : Nat) (l : List Nat) : AV → Option AV
  | .p (some (id, off)) => match newId base nb l id with
    | some id' => some (.p (some (id', off)))
    | none => none
  | .sl (some (id, off)) len cap => match newId base nb l id with
    | some id' => some (.sl (some (id', off)) len cap)
    | none => none
  | .fn g x y => match AV.rens base nb l x with
    | some x' => match AV.rens base nb l y with
      | some y' => some (.fn g x' y')
      | none => none
    | none => none
  | .agg cs => match AV.rens base nb l cs with
    | some cs' => some (.agg cs')
    | none => none
  | .tup cs => match AV.rens base nb l cs with
    | some cs' => some (.tup cs')
    | none => none
  | .vs len cap cs => match AV.rens base nb l cs with
    | some cs' => some (.vs len cap cs')
    | none => none
  | .vp cs => match AV.rens base nb l cs with
    | some cs' => some (.vp cs')
    | none => none
  | v => some v
def AV.rens (base nb : Nat) (l : List Nat) : List AV → Option (List AV)
  | [] => some []
  | x :: xs => match AV.ren base nb l x with
    | some x' => match AV.rens base nb l xs with
      | some xs' => some (x' :: xs')
      | none => none
    | none => none
end
def fidss (base : Nat) : List (Nat × AV) → List Nat → List Nat
  | [], l => l
  | (_, v) :: r, l => fidss base r (AV.ids base v l)
def lidss (base : Nat) : List (Nat × List AV) → List Nat → List Nat
  | [], l => l
  | (_, v) :: r, l => lidss base r (AV.idss base v l)
def frens (base nb : Nat) (l : List Nat) : List (Nat × AV) → Option (List (Nat × AV))
  | [] => some []
  | (t, v) :: r => match AV.ren base nb l v with
    | some v' => match frens base nb l r with
      | some r' => some ((t, v') :: r')
      | none => none
    | none => none
def lrens (base nb : Nat) (l : List Nat) : List (Nat × List AV) → Option (List (Nat × List AV))
  | [] => some []
  | (t, v) :: r => match AV.rens base nb l v with
    | some v' => match lrens base nb l r with
      | some r' => some ((t, v') :: r')
      | none => none
    | none => none
/-- The blocks of some numbers, with new ones from 'j' on. -/
def hrens (base nb : Nat) (l : List Nat) (h : AHeap) : Nat → List Nat → Option AHeap
  | _, [] => some []
  | j, id :: r => match newId base nb l id with
    | none => none
    | some j' => bif Nat.beq j' j && Nat.ble base id then match hget h id with
        | none => hrens base nb l h (j + 1) r
        | some x => match AV.rens base nb l x.cells with
          | some cs => match hrens base nb l h (j + 1) r with
            | some h' => some ((j, ⟨x.own, x.opn, x.ty, x.esz, cs⟩) :: h')
            | none => none
          | none => none
      else none
/-- The blocks below a number that name none from there on. -/
def hlow (base : Nat) (h : AHeap) : Nat → AHeap
  | 0 => []
  | k + 1 => match hget h k with
    | some b => bif AV.olds base b.cells then (k, b) :: hlow base h k else hlow base h k
    | none => hlow base h k
/-- Numbers that blocks name, too. -/
def hidss (base : Nat) (h : AHeap) : Nat → List Nat → List Nat → List Nat
  | 0, _, l => l
  | _, [], l => l
  | f + 1, id :: r, l => match hget h id with
    | some x =>
      let l' := AV.idss base x.cells l
      hidss base h f (r ++ (l'.take (l'.length - l.length)).reverse) l'
    | none => hidss base h f r l
/-- Some temporaries and slots alone, their blocks numbered anew from 'base' on. -/
def AS.keepG (s : AS) (base : Nat) (ts ls : List Nat) : Option AS :=
  match s.keep ts ls with
  | none => none
  | some s1 =>
    let l0 := lidss base s1.loc (fidss base s1.fr [])
    let l := (hidss base s1.h 16 l0.reverse l0).reverse
    match frens base base l s1.fr with
    | none => none
    | some fr => match lrens base base l s1.loc with
      | none => none
      | some loc => match hrens base base l s1.h base l with
        | none => none
        | some h => some ⟨fr, loc, h ++ hlow base s1.h base, base + l.length⟩

def evLoop (body : AS → (AE → AS → Option Res) → Option Res) : Nat → AS → (AE → AS → Option Res) → Option Res
  | 0, _, _ => none
  | f + 1, s, k => body s fun e s' => match e with
    | .nrm => evLoop body f s' k
    | e => k e s'

def evC (F : Nat) : AC → AS → (AE → AS → Option Res) → Option Res
  | .skip, s, k => k .nrm s
  | .ret, s, k => k .ret s
  | .reg false ops, s, k => evOps O fl ops s (k .nrm)
  | .reg true ops, s, k => evDraw O fl 0 ops s [] (k .nrm)
  | .seq a b, s, k => evC F a s fun e s' => match e with
    | .nrm => evC F b s' k
    | e => k e s'
  | .ite c a b, s, k => match xn s.fr c with
    | some (.b true) => evC F a s k
    | some (.b false) => evC F b s k
    | _ => none
  | .blk id a, s, k => evC F a s fun e s' => match e with
    | .ex j => bif Nat.beq j id then k .nrm s' else k (.ex j) s'
    | e => k e s'
  | .loop a, s, k => evLoop (evC F a) F s k
  | .exit id, s, k => k (.ex id) s
  | .cut ts ls a, s, k => match s.keep ts ls with
    | some s' => evC F a s' k
    | none => none
  | .cutg base ts ls a, s, k => match s.keepG base ts ls with
    | some s' => evC F a s' k
    | none => none

def ares (s : AS) : AR → Option AV
  | .t n => match fget s.fr n with
    | some v => bif v.islp then none else some v
    | none => none
  | .cell n sz => match fget s.fr n with
    | some (.lp t off) => match lget s.loc t with
      | some cs => apart_ cs off sz
      | none => none
    | some (.p (some (id, off))) => match hget s.h id with
      | some b => apart_ b.cells off sz
      | none => none
    | _ => none
def aress (s : AS) : List AR → Option (List AV)
  | [] => some []
  | r :: rs => match ares s r with
    | some v => match aress s rs with
      | some vs => some (v :: vs)
      | none => none
    | none => none
def outOf (r : List AR) (s : AS) : Option Res :=
  match aress s r with
  | some [v] => some (v, s.h, s.n)
  | some vs => some (.tup vs, s.h, s.n)
  | none => none
def argsFr : Nat → List AV → List (Nat × AV)
  | _, [] => []
  | j, v :: r => (j, v) :: argsFr (j + 1) r
def evFn (F : Nat) (f : AFn) (args : List AV) (h : AHeap) (n : Nat) : Option Res :=
  bif Nat.beq args.length f.nargs then
    evC O fl F f.body ⟨argsFr 0 args, [], h, n⟩ fun e s => match e with
      | .ex _ => none
      | _ => outOf f.res s
  else none
end

/-- One call deeper: functions by their numbers; for the others the oracle is asked. -/
def evO (O : Orc) (fs : Nat → Option AFn) (F : Nat) : Orc := fun g args h n fl => match fs g with
  | some f => match evFn O fl F f args h n with
    | some (v, h', n') => some (v, some (h', n'))
    | none => none
  | none => O g args h n fl
/-- Functions by their numbers, to a depth. -/
def evD (O : Orc) (fs : Nat → Option AFn) (F : Nat) : Nat → Orc
  | 0 => O
  | d + 1 => evO (evD O fs F d) fs F

end
end Go.Proofs.YtogkkamlmklpkaaDoor.Ab
