/-
  THE ABSTRACT INTERPRETER 'AX': the model's code run over plain values: a slice that is not written is a list, what is written lies in an object with a number; no tape, no world.
  It says nothing by itself: AX5 proves that what it answers is what the model's machine answers.
-/
import GoSem.Step
namespace Go.AX

inductive Pv where
  | bool (b : Bool)
  | int (k : IntKind) (n : Int)
  | str (s : List UInt8)
  | agg (cs : List Pv)
  | tup (vs : List Pv)
  | sl (sz : Nat) (ex : Bool) (l : List Pv)
  | nils
  | ep (cs : List Pv)
  | nilp
  | fn (f : FuncId) (first cap : List Pv)
  | nilf
  | nilm
  | niface
  deriving Inhabited

inductive V where
  | undef
  | p (x : Pv)
  | agg (cs : List V)
  | tup (vs : List V)
  | ptr (id ver off : Nat)
  | arr (id ver sz off len : Nat)
  | fn (f : FuncId) (first cap : List V)
  | map (id : Nat)
  | ev (cs : List V)
  deriving Inhabited

inductive Ob where
  | box (ver : Nat) (cs : List V)
  | arr (ver fz sz : Nat) (es : List V)
  | map (es : List (List UInt8 × Pv))
  | dead
  deriving Inhabited

def Pv.cells : Pv → List Pv
  | .agg cs => cs
  | .tup _ => []
  | x => [x]
def V.cells : V → List V
  | .agg cs => cs
  | .p x => x.cells.map .p
  | .undef | .tup _ => []
  | v => [v]
def asP : V → Option Pv
  | .p x => some x
  | _ => none
def allP : List V → Option (List Pv)
  | [] => some []
  | v :: l => match asP v, allP l with
    | some x, some r => some (x :: r)
    | _, _ => none
def mkAgg (cs : List V) : V := match allP cs with
  | some l => .p (.agg l)
  | none => .agg cs
def mkTup (vs : List V) : V := match allP vs with
  | some l => .p (.tup l)
  | none => .tup vs

def evOf (cs : List V) : V := match allP cs with
  | some l => .p (.ep l)
  | none => .ev cs

def inK : IntKind → Int → Bool
  | .i64, .ofNat n => Nat.ble n 9223372036854775807
  | .i64, .negSucc n => Nat.ble n 9223372036854775807
  | .u8, .ofNat n => Nat.ble n 255
  | .u64, .ofNat n => Nat.ble n 18446744073709551615
  | .u32, .ofNat n => Nat.ble n 4294967295
  | .i32, .ofNat n => Nat.ble n 2147483647
  | .i32, .negSucc n => Nat.ble n 2147483647
  | _, _ => false
def wrapK (k : IntKind) (n : Int) : Int := match inK k n with
  | true => n
  | false => k.wrap n

structure FI where
  off : Nat
  size : Nat
  agg : Bool
inductive Kd where
  | bool | int (k : IntKind) | str | ptr | func | map (key elem : TypeId) | other
  | slice (e : TypeId) (esz ebytes : Nat) (eagg u8 : Bool)
  | array (n esz : Nat) (eagg : Bool)
  | struct (fs : List FI)
structure TI where
  kd : Kd
  size : Nat
  agg : Bool
  zero : List Pv
  zv : Option Pv
  eq : Option (List Nat)

def ofCell : Value → Option Pv
  | .bool b => some (.bool b)
  | .int k n => some (.int k n)
  | .string s => some (.str s.data.toList)
  | .slice none 0 0 => some .nils
  | .pointer none => some .nilp
  | .nilFunc => some .nilf
  | .map none => some .nilm
  | .nilIface => some .niface
  | _ => none
def allCells : List Value → Option (List Pv)
  | [] => some []
  | v :: l => match ofCell v, allCells l with
    | some x, some r => some (x :: r)
    | _, _ => none
def ofValue : Value → Option Pv
  | .agg cs => (allCells cs.toList).map .agg
  | .tuple vs => match vs.toList with
    | [] => some (.tup [])
    | _ => none
  | v => ofCell v

def aggOf (P : Program) (t : TypeId) : Bool := match P.underlying t with
  | some (.struct _) | some (.array _ _) => true
  | _ => false
def plainEq (P : Program) (t : TypeId) : Option Nat := match P.underlying t with
  | some .bool => some 0
  | some (.int _) => some 1
  | some .string => some 2
  | _ => none
def plainEqs (P : Program) : Nat → List Field → Option (List Nat)
  | _, [] => some []
  | i, f :: l => match plainEq P f.type, plainEqs P (i + 1) l with
    | some k, some r => if f.name ≠ "_" ∧ (P.info? f.type).isSome = true ∧ f.offset = i then some (k :: r) else none
    | _, _ => none
def fiOf (P : Program) (f : Field) : Option FI := match P.info? f.type, P.underlying f.type with
  | some i, some _ => some { off := f.offset, size := i.size, agg := aggOf P f.type }
  | _, _ => none
def fisOf (P : Program) : List Field → Option (List FI)
  | [] => some []
  | f :: l => match fiOf P f, fisOf P l with
    | some x, some r => some (x :: r)
    | _, _ => none
def eqOf (P : Program) (t : TypeId) : Option (List Nat) := match P.underlying t with
  | some (.struct fs) => if P.stoodInHeld t = false ∧ P.eqGuardType P.depth t = false then plainEqs P 0 fs.toList else none
  | _ => none
def kdOf (P : Program) (t : TypeId) : Option Kd := match P.underlying t with
  | some .bool => some .bool
  | some (.int k) => some (.int k)
  | some .string => some .str
  | some (.pointer _) => some .ptr
  | some (.func _ _ _) => some .func
  | some (.map k e) => some (.map k e)
  | some (.slice e) => match P.info? e with
    | some i => match i.zero with
      | some z => if z.cells.size = i.size then some (.slice e i.size i.bytes (aggOf P e) (match P.underlying e with | some (.int .u8) => true | _ => false)) else none
      | none => none
    | none => none
  | some (.array n e) => match P.info? e, P.underlying e with
    | some i, some _ => some (.array n i.size (aggOf P e))
    | _, _ => none
  | some (.struct fs) => (fisOf P fs.toList).map .struct
  | some _ => some .other
  | none => none
def zeroOf (i : TypeInfo) : Option (List Pv) := match i.zero with
  | some z => allCells z.cells.toList
  | none => none
def tiOf (P : Program) (t : TypeId) : Option TI := match P.info? t, kdOf P t with
  | some i, some k => match zeroOf i with
    | some z => some { kd := k, size := i.size, agg := aggOf P t, zero := z, zv := i.zero.bind ofValue, eq := eqOf P t }
    | none => none
  | _, _ => none

structure RH where
  live : Option (List Nat) := none
  ops : List (Nat × Nat) := []
  trunc : Option Nat := none
structure FnI where
  body : Code
  ntmps : Nat
  results : List ResultVar
  hints : List (Nat × RH)
structure Cx where
  T : TypeId → Option TI
  F : FuncId → Option FnI
  gl : Nat → Option (List Pv)

abbrev Env := List (Nat × V)
abbrev Hp := List Ob
structure St where
  env : Env
  H : Hp

def look : Env → Nat → V
  | [], _ => .undef
  | (k, v) :: l, t => match Nat.beq k t with
    | true => v
    | false => look l t
def keep (live : List Nat) (e : Env) : Env := live.map fun t => (t, look e t)
def hintOf : List (Nat × Nat) → Nat → Nat
  | [], _ => 0
  | (k, h) :: l, i => match Nat.beq k i with
    | true => h
    | false => hintOf l i
def rhOf : List (Nat × RH) → Nat → RH
  | [], _ => {}
  | (k, h) :: l, i => match Nat.beq k i with
    | true => h
    | false => rhOf l i

def ev (cx : Cx) (e : Env) : Operand → V
  | .tmp t => look e t
  | .const v => match ofValue v with
    | some x => .p x
    | none => .undef
  | .global g => match cx.gl g with
    | some cs => .p (.ep cs)
    | none => .undef
  | .func f => .p (.fn f [] [])

def cut {α : Type} (l : List α) (off n : Nat) : Option (List α) :=
  match Nat.ble (off + n) l.length with
  | true => some ((l.drop off).take n)
  | false => none
def partP (ag : Bool) (size off : Nat) (cs : List Pv) : Option Pv := match ag with
  | true => (cut cs off size).map .agg
  | false => cs[off]?
def partV (ag : Bool) (size off : Nat) (cs : List V) : Option V := match ag with
  | true => (cut cs off size).map mkAgg
  | false => cs[off]?
def over {α : Type} (l : List α) (off : Nat) (new : List α) : List α := l.take off ++ new ++ l.drop (off + new.length)

def arith (k : IntKind) (op : BinOp) (a b : Int) : Option Pv := match op with
  | .add => some (.int k (wrapK k (a + b)))
  | .sub => some (.int k (wrapK k (a - b)))
  | .mul => some (.int k (wrapK k (a * b)))
  | .quo => if b = 0 then none else some (.int k (wrapK k (a.tdiv b)))
  | .rem => if b = 0 then none else some (.int k (a.tmod b))
  | .eql => some (.bool (a == b))
  | .neq => some (.bool (a != b))
  | .lss => some (.bool (decide (a < b)))
  | .leq => some (.bool (decide (a ≤ b)))
  | .gtr => some (.bool (decide (a > b)))
  | .geq => some (.bool (decide (a ≥ b)))
  | _ => none
def strOp (op : BinOp) (a b : List UInt8) : Option Pv := match op with
  | .add => match Nat.ble (a.length + b.length) 9223372036854775807 with
    | true => some (.str (a ++ b))
    | false => none
  | .eql => some (.bool (a == b))
  | .neq => some (.bool (!(a == b)))
  | .lss => some (.bool (Op.bytesLess a b))
  | .leq => some (.bool (Op.bytesLess a b || a == b))
  | .gtr => some (.bool (!(Op.bytesLess a b || a == b)))
  | .geq => some (.bool (!(Op.bytesLess a b)))
  | _ => none
def eqn (op : BinOp) (r : Bool) : Option Pv := match op with
  | .eql => some (.bool r)
  | .neq => some (.bool (!r))
  | _ => none
def eqCells : List Nat → List Pv → List Pv → Option Bool
  | [], [], [] => some true
  | 1 :: ks, .int k a :: l, .int k' b :: m => if k = k' then (eqCells ks l m).map ((a == b) && ·) else none
  | 0 :: ks, .bool a :: l, .bool b :: m => (eqCells ks l m).map ((a == b) && ·)
  | 2 :: ks, .str a :: l, .str b :: m => (eqCells ks l m).map ((a == b) && ·)
  | _, _, _ => none
def binP (ti : Option TI) (op : BinOp) : Pv → Pv → Option Pv
  | .int k a, .int k' b => if k = k' then arith k op a b else none
  | .str a, .str b => strOp op a b
  | .bool a, .bool b => match ti with
    | some { kd := .bool, .. } => eqn op (a == b)
    | _ => none
  | .agg a, .agg b => match ti with
    | some { eq := some ks, .. } => match eqCells ks a b with
      | some r => eqn op r
      | none => none
    | _ => none
  | .nils, .nils => match ti with
    | some { kd := .slice .., .. } => eqn op true
    | _ => none
  | .nilp, .nilp => match ti with
    | some { kd := .ptr, .. } => eqn op true
    | _ => none
  | .nilf, .nilf => match ti with
    | some { kd := .func, .. } => eqn op true
    | _ => none
  | .nilm, .nilm => match ti with
    | some { kd := .map .., .. } => eqn op true
    | _ => none
  | .sl _ _ (_ :: _), .nils | .nils, .sl _ _ (_ :: _) => match ti with
    | some { kd := .slice .., .. } => eqn op false
    | _ => none
  | .fn .., .nilf | .nilf, .fn .. => match ti with
    | some { kd := .func, .. } => eqn op false
    | _ => none
  | _, _ => none
def binV (ti : Option TI) (op : BinOp) : V → V → Option V
  | .p x, .p y => (binP ti op x y).map .p
  | .ptr .., .p .nilp | .p .nilp, .ptr .. => match ti with
    | some { kd := .ptr, .. } => (eqn op false).map .p
    | _ => none
  | .arr _ _ _ _ (_ + 1), .p .nils => match ti with
    | some { kd := .slice .., .. } => (eqn op false).map .p
    | _ => none
  | _, _ => none
def unP : UnOp → Pv → Option Pv
  | .neg, .int k n => some (.int k (wrapK k (0 - n)))
  | .not, .bool b => some (.bool !b)
  | _, _ => none
def bytesOf : List Pv → Option (List UInt8)
  | [] => some []
  | .int .u8 n :: l => (bytesOf l).map (UInt8.ofNat n.toNat :: ·)
  | _ => none
def toBytes (s : List UInt8) : List Pv := s.map fun b => .int .u8 b.toNat
def convP (src dst : TI) (x : Pv) : Option Pv := match dst.kd, x with
  | .int k, .int _ n => some (.int k (wrapK k n))
  | .str, .str s => some (.str s)
  | .slice _ _ _ _ true, .str s => match src.kd with
    | .str => some (.sl 1 false (toBytes s))
    | _ => none
  | .str, .sl _ _ l => match src.kd with
    | .slice _ _ _ _ true => (bytesOf l).map .str
    | _ => none
  | .str, .nils => match src.kd with
    | .slice _ _ _ _ true => some (.str [])
    | _ => none
  | _, _ => none
def upTo (v : V) (n : Nat) : Option Nat := match v with
  | .p (.int _ (.ofNat i)) => match Nat.ble i n with
    | true => some i
    | false => none
  | _ => none
def below (v : V) (n : Nat) : Option Nat := match v with
  | .p (.int _ (.ofNat i)) => match Nat.blt i n with
    | true => some i
    | false => none
  | _ => none
def bMax (len : Nat) : Option V → Option (Option Nat)
  | some v => (upTo v len).map some
  | none => some none
def bHi (len : Nat) (m : Option Nat) : Option V → Option V → Option Nat
  | some v, _ => upTo v (m.getD len)
  | none, none => some len
  | none, some _ => none
def bLo (h : Nat) : Option V → Option Nat
  | some v => upTo v h
  | none => some 0
def bounds (len : Nat) (lo hi mx : Option V) : Option (Nat × Nat × Option Nat) := match bMax len mx with
  | none => none
  | some m => match bHi len m hi mx with
    | none => none
    | some h => match bLo h lo with
      | none => none
      | some l => some (l, h, m)
def sliceV (ti : TI) (x : V) (lo hi mx : Option V) : Option V := match ti.kd, x with
  | .str, .p (.str s) => match mx with
    | some _ => none
    | none => match bounds s.length lo hi none with
      | some (l, h, _) => some (.p (.str ((s.drop l).take (h - l))))
      | none => none
  | .slice _ esz _ _ _, .p (.sl sz ex s) => match Nat.beq sz esz, bounds s.length lo hi mx with
    | true, some (l, h, m) => some (.p (.sl sz (match m with | some m => Nat.beq m h | none => ex && Nat.beq h s.length) ((s.drop l).take (h - l))))
    | _, _ => none
  | .slice .., .p .nils => match bounds 0 lo hi mx with
    | some _ => some (.p .nils)
    | none => none
  | .slice _ esz _ _ _, .arr id ver sz off len => match mx with
    | some _ => none
    | none => match Nat.beq sz esz, bounds len lo hi none with
      | true, some (l, h, _) => match Nat.beq l h && Nat.blt 0 l with
        | true => some (.p (.sl sz false []))
        | false => some (.arr id ver sz (off + l) (h - l))
      | _, _ => none
  | _, _ => none
def indexV (ti : TI) (x i : V) : Option V := match ti.kd, x with
  | .str, .p (.str s) => match below i s.length with
    | some i => (s[i]?).map fun b => .p (.int .u8 b.toNat)
    | none => none
  | .array n esz eagg, .p (.agg cs) => match below i n with
    | some i => (partP eagg esz (i * esz) cs).map .p
    | none => none
  | _, _ => none
def indexAddrV (ti : TI) (x i : V) : Option V := match ti.kd, x with
  | .slice _ esz _ _ _, .p (.sl sz _ l) => match Nat.beq sz esz, below i l.length with
    | true, some i => (l[i]?).map fun e => .p (.ep e.cells)
    | _, _ => none
  | .slice _ esz _ _ _, .arr id ver sz off len => match Nat.beq sz esz, below i len with
    | true, some i => some (.ptr id ver ((off + i) * sz))
    | _, _ => none
  | .array n esz _, .p (.ep cs) => match below i n with
    | some i => (cut cs (i * esz) (cs.length - i * esz)).map fun c => .p (.ep c)
    | none => none
  | .array n esz _, .ptr id ver off => match below i n with
    | some i => some (.ptr id ver (off + i * esz))
    | none => none
  | _, _ => none
def fieldAddrV (ti : TI) (x : V) (f : Nat) : Option V := match ti.kd with
  | .struct fs => match fs[f]? with
    | some fi => match Nat.beq fi.size 0 with
      | true => none
      | false => match x with
        | .p (.ep cs) => (cut cs fi.off (cs.length - fi.off)).map fun c => .p (.ep c)
        | .ptr id ver off => some (.ptr id ver (off + fi.off))
        | .ev cs => (cut cs fi.off (cs.length - fi.off)).map .ev
        | _ => none
    | none => none
  | _ => none
def fieldV (ti : TI) (x : V) (f : Nat) : Option V := match ti.kd with
  | .struct fs => match fs[f]? with
    | some fi => match x with
      | .p (.agg cs) => (partP fi.agg fi.size fi.off cs).map .p
      | .agg cs => partV fi.agg fi.size fi.off cs
      | _ => none
    | none => none
  | _ => none
def nilCheckV : V → Option V
  | .p (.ep cs) => some (.p (.ep cs))
  | .ptr id ver off => some (.ptr id ver off)
  | .ev cs => some (.ev cs)
  | .p (.fn f a b) => some (.p (.fn f a b))
  | .fn f a b => some (.fn f a b)
  | _ => none
def extractV (i : Nat) : V → Option V
  | .p (.tup l) => (l[i]?).map .p
  | .tup l => l[i]?
  | _ => none
def lenV (ti : TI) : V → Option Nat
  | .p (.str s) => match ti.kd with
    | .str => some s.length
    | _ => none
  | .p (.sl _ _ l) => match ti.kd with
    | .slice .. => some l.length
    | _ => none
  | .p .nils => match ti.kd with
    | .slice .. => some 0
    | _ => none
  | .arr _ _ _ _ n => match ti.kd with
    | .slice .. => some n
    | _ => none
  | .p (.agg _) => match ti.kd with
    | .array n _ _ => some n
    | _ => none
  | .p .nilm => match ti.kd with
    | .map .. => some 0
    | _ => none
  | _ => none
def foldInt (f : Int → Int → Int) : IntKind → Int → List V → Option Pv
  | k, a, [] => some (.int k a)
  | k, a, .p (.int k' b) :: l => if k = k' then foldInt f k (f a b) l else none
  | _, _, _ => none
def minmax (f : Int → Int → Int) : List V → Option Pv
  | .p (.int k a) :: l => foldInt f k a l
  | _ => none
def fillV (place : Nat → Option (Nat × Nat)) (cells : List V) : List (Nat × V) → Option (List V)
  | [] => some cells
  | (i, v) :: rest => match place i with
    | none => none
    | some (off, size) => match Nat.beq v.cells.length size && Nat.blt 0 size, Nat.ble (off + size) cells.length with
      | true, true => fillV place (over cells off v.cells) rest
      | _, _ => none
def buildV (ti : TI) (parts : List (Nat × V)) : Option V := match ti.kd with
  | .struct fs => (fillV (fun i => (fs[i]?).map fun f => (f.off, f.size)) (ti.zero.map .p) parts).map mkAgg
  | .array _ esz _ => (fillV (fun i => some (i * esz, esz)) (ti.zero.map .p) parts).map mkAgg
  | _ => none
def elemsOf (esz : Nat) : Nat → List (Nat × V) → Option (List Pv)
  | _, [] => some []
  | i, (j, .p x) :: l => match Nat.beq i j, Nat.beq x.cells.length esz with
    | true, true => (elemsOf esz (i + 1) l).map (x :: ·)
    | _, _ => none
  | _, _ => none
def buildSliceV (ti : TI) (n : Nat) (parts : List (Nat × V)) : Option V := match ti.kd with
  | .slice _ esz _ eagg _ => match elemsOf esz 0 parts with
    | some l => match Nat.beq l.length n, Nat.ble (n * esz) 16777216, Nat.blt 0 esz, l.all (fun x => match x with | .agg _ => eagg | _ => !eagg) with
      | true, true, true, true => some (.p (.sl esz true l))
      | _, _, _, _ => none
    | none => none
  | _ => none
def makeFuncV (fn : Fn) (first cap : List V) : Option V := match fn with
  | .func f => match allP first, allP cap with
    | some a, some b => some (.p (.fn f a b))
    | _, _ => some (.fn f first cap)
  | _ => none

def boxAt (H : Hp) (id ver : Nat) : Option (List V) := match H[id]? with
  | some (.box v cs) => match Nat.beq v ver with
    | true => some cs
    | false => none
  | _ => none
def arrAt (H : Hp) (id ver : Nat) : Option (Nat × Nat × List V) := match H[id]? with
  | some (.arr v fz sz es) => match Nat.beq v ver with
    | true => some (fz, sz, es)
    | false => none
  | _ => none
def elems (H : Hp) : V → Option (List V)
  | .p (.sl _ _ l) => some (l.map .p)
  | .p .nils => some []
  | .arr id ver sz off len => match arrAt H id ver with
    | some (_, sz', es) => match Nat.beq sz sz' with
      | true => cut es off len
      | false => none
    | none => none
  | _ => none
def loadV (ti : TI) (H : Hp) : V → Option V
  | .p (.ep cs) => (partP ti.agg ti.size 0 cs).map .p
  | .ev cs => partV ti.agg ti.size 0 cs
  | .ptr id ver off => match H[id]? with
    | some (.box v cs) => match Nat.beq v ver with
      | true => partV ti.agg ti.size off cs
      | false => none
    | some (.arr v _ sz es) => match Nat.beq v ver with
      | true => match es[off / sz]? with
        | some e => match Nat.beq (off % sz) 0 && Nat.beq ti.size sz && ti.agg, e with
          | true, .p (.agg cs) => some (.p (.agg cs))
          | _, e => partV ti.agg ti.size (off % sz) e.cells
        | none => none
      | false => none
    | _ => none
  | _ => none
def storeV (ti : TI) (H : Hp) (a : V) (v : V) : Option Hp := match Nat.beq v.cells.length ti.size && Nat.blt 0 ti.size with
  | false => none
  | true => match a with
    | .ptr id ver off => match H[id]? with
      | some (.box u cs) => match Nat.beq u ver, Nat.ble (off + v.cells.length) cs.length with
        | true, true => some (H.set id (.box u (over cs off v.cells)))
        | _, _ => none
      | some (.arr u fz sz es) => match Nat.beq u ver, Nat.ble fz (off / sz), es[off / sz]? with
        | true, true, some e => match Nat.beq (off % sz) 0 && Nat.beq v.cells.length sz with
          | true => some (H.set id (.arr u fz sz (es.set (off / sz) v)))
          | false => match Nat.ble (off % sz + v.cells.length) e.cells.length with
            | true => some (H.set id (.arr u fz sz (es.set (off / sz) (mkAgg (over e.cells (off % sz) v.cells)))))
            | false => none
        | _, _, _ => none
      | _ => none
    | _ => none
def newBox (H : Hp) (cs : List V) : V × Hp := (.ptr H.length 0 0, H ++ [.box 0 cs])
def roomy (n bytes : Nat) : Bool := Nat.ble (n * bytes) 70368744177664 && Nat.ble n 70368744177664
def appendV (ti : TI) (H : Hp) (s x : V) : Option (V × Hp) := match ti.kd with
  | .slice _ esz ebytes _ _ => match (match x with | .p (.str b) => some ((toBytes b).map V.p) | x => elems H x) with
    | none => none
    | some new => match new with
      | [] => match s with
        | .p (.sl ..) | .p .nils | .arr .. => some (s, H)
        | _ => none
      | _ :: _ => match Nat.blt 0 esz && new.all (fun e => Nat.beq e.cells.length esz) with
        | false => none
        | true => match s with
          | .p .nils => match roomy new.length ebytes with
            | true => some (.arr H.length 0 esz 0 new.length, H ++ [.arr 0 0 esz new])
            | false => none
          | .p (.sl sz true l) => match roomy (l.length + new.length) ebytes && Nat.beq sz esz with
            | true => some (.arr H.length 0 esz 0 (l.length + new.length), H ++ [.arr 0 0 esz (l.map .p ++ new)])
            | false => none
          | .arr id ver sz off len => match arrAt H id ver with
            | some (fz, sz', es) => match cut es off len with
              | some old => match Nat.beq sz esz && Nat.beq sz sz' && Nat.ble fz (off + len) && roomy (len + new.length) ebytes with
                | true => some (.arr id (ver + 1) esz 0 (len + new.length), H.set id (.arr (ver + 1) (fz - off) esz (old ++ new)))
                | false => none
              | none => none
            | none => none
          | _ => none
  | _ => none
def zeroElem (esz : Nat) (z : List Pv) (agg : Bool) : Option V := match agg, z with
  | true, z => match Nat.beq z.length esz with
    | true => some (.p (.agg z))
    | false => none
  | false, [x] => match x with
    | .agg _ | .tup _ => none
    | x => some (.p x)
  | false, _ => none
def makeSliceV (ti te : TI) (H : Hp) (l c : V) : Option (V × Hp) := match ti.kd with
  | .slice _ esz ebytes eagg _ => match l, c with
    | .p (.int .i64 (.ofNat n)), .p (.int .i64 (.ofNat m)) => match zeroElem esz te.zero eagg with
      | some z => match Nat.ble n m && roomy m ebytes && Nat.blt 0 esz with
        | true => some (.arr H.length 0 esz 0 n, H ++ [.arr 0 0 esz (List.replicate n z)])
        | false => none
      | none => none
    | _, _ => none
  | _ => none

def findM (k : List UInt8) : List (List UInt8 × Pv) → Option Pv
  | [] => none
  | (s, x) :: l => match k == s with
    | true => some x
    | false => findM k l
def putM (k : List UInt8) (x : Pv) : List (List UInt8 × Pv) → List (List UInt8 × Pv)
  | [] => [(k, x)]
  | (s, y) :: l => match k == s with
    | true => (s, x) :: l
    | false => (s, y) :: putM k x l
def mapAt (H : Hp) : V → Option (List (List UInt8 × Pv))
  | .p .nilm => some []
  | .map id => match H[id]? with
    | some (.map es) => some es
    | _ => none
  | _ => none
def lookupV (te : TI) (H : Hp) (m k : V) (ok : Bool) : Option V := match k with
  | .p (.str key) => match mapAt H m with
    | none => none
    | some es => match findM key es with
      | some x => some (.p (match ok with | true => .tup [x, .bool true] | false => x))
      | none => match te.zv with
        | some x => some (.p (match ok with | true => .tup [x, .bool false] | false => x))
        | none => none
  | _ => none
def mapUpdateV (H : Hp) (m k x : V) : Option Hp := match m, k, x with
  | .map id, .p (.str key), .p y => match H[id]? with
    | some (.map es) => some (H.set id (.map (putM key y es)))
    | _ => none
  | _, _, _ => none
def mapTI (cx : Cx) (t : TypeId) : Option TI := match cx.T t with
  | some ti => match ti.kd with
    | .map kt et => match cx.T kt, cx.T et with
      | some { kd := .str, .. }, some te => some te
      | _, _ => none
    | _ => none
  | none => none

def frz (H : Hp) : V → V
  | .arr id ver sz off len => match elems H (.arr id ver sz off len) with
    | some es => match allP es with
      | some l => .p (.sl sz false l)
      | none => .arr id ver sz off len
    | none => .arr id ver sz off len
  | v => v
def frzAt (H : Hp) (v : V) : V := match v with
  | .agg cs => mkAgg (cs.map (frz H))
  | v => frz H v
def frzCells (H : Hp) (v : V) : V := match v with
  | .tup vs => mkTup (vs.map (frzAt H))
  | v => frzAt H v
def mark (H : Hp) : V → Hp
  | .arr id ver _ off len => match H[id]? with
    | some (.arr v fz sz es) => match Nat.beq v ver with
      | true => H.set id (.arr v (max fz (off + len)) sz es)
      | false => H
    | _ => H
  | _ => H
def markAt (H : Hp) (v : V) : Hp := match v with
  | .agg cs => cs.foldl mark H
  | v => mark H v
def markCells (H : Hp) (v : V) : Hp := match v with
  | .tup vs => vs.foldl markAt H
  | v => markAt H v
def hardOb (H : Hp) (id : Nat) : Hp := match H[id]? with
  | some (.arr _ _ _ es) =>
    let H1 := (es.flatMap V.cells).foldl mark H
    match H1[id]? with
    | some (.arr v fz sz es1) => H1.set id (.arr v fz sz (es1.map (frzAt H1)))
    | _ => H1
  | _ => H
def hardV : Nat → Hp → V → Hp
  | 0, H, _ => H
  | n + 1, H, .arr id _ _ _ _ => match H[id]? with
    | some (.arr _ _ _ es) => hardOb (es.foldl (hardV n) H) id
    | _ => H
  | n + 1, H, .agg cs => cs.foldl (hardV n) H
  | n + 1, H, .tup cs => cs.foldl (hardV n) H
  | _ + 1, H, _ => H
def frzD (H : Hp) (v : V) : V := match frzCells H v with
  | .p x => .p x
  | _ => frzCells (hardV 8 H v) v
theorem frzD_of {H : Hp} {v : V} {x : Pv} (h : frzCells H v = .p x) : frzD H v = .p x := by
  unfold frzD
  rw [h]

abbrev CallF := FuncId → List V → Hp → Option (V × Hp)

def pureCall (call : CallF) (f : FuncId) (args : List V) : Option V :=
  match allP args with
  | none => none
  | some _ => match call f args [] with
    | some (r, H') => match frzD H' r with
      | .p x => some (.p x)
      | _ => none
    | none => none
def callee (v : V) : Option (FuncId × List V × List V) := match v with
  | .p (.fn f a b) => some (f, a.map .p, b.map .p)
  | .fn f a b => some (f, a, b)
  | _ => none
def callV (call : CallF) (h : Nat) (H : Hp) (fv : V) (args : List V) : Option (V × Hp) := match callee fv with
  | none => none
  | some (f, a, b) => match h with
    | 1 => call f (a ++ args ++ b) H
    | _ => (pureCall call f (a ++ args ++ b)).map (·, H)
def builtinV (cx : Cx) (H : Hp) (b : Builtin) (args : List V) (argTypes : Array TypeId) : Option (V × Hp) := match b, args with
  | .len, [x] => match (argTypes[0]?).bind cx.T with
    | some ti => match lenV ti x with
      | some n => some (.p (.int .i64 n), H)
      | none => none
    | none => none
  | .min, l => (minmax (fun a b => if b < a then b else a) l).map fun x => (.p x, H)
  | .max, l => (minmax (fun a b => if b > a then b else a) l).map fun x => (.p x, H)
  | .append, [s, x] => match argTypes[0]?, argTypes[1]? with
    | some t, some u => match cx.T t, cx.T u with
      | some ti, some { kd := .slice .., .. } | some ti, some { kd := .str, .. } => appendV ti H s x
      | _, _ => none
    | _, _ => none
  | _, _ => none

def pureB (cx : Cx) (H : Hp) (b : Builtin) (args : List V) (argTypes : Array TypeId) : Option (V × Hp) := match allP args with
  | none => none
  | some _ => match builtinV cx [] b args argTypes with
    | some (r, H') => match frzCells H' r with
      | .p x => some (.p x, H)
      | _ => none
    | none => none

def firstP : List V → Bool
  | .p _ :: _ => true
  | _ => false
def boxes (H : Hp) : Hp := H.map fun ob => match ob with
  | .box v cs => .box v cs
  | _ => .dead
def ldH (h : Nat) (H : Hp) : Hp := match h with
  | 2 => []
  | 3 => boxes H
  | _ => H
theorem ldH_ne {h : Nat} {H : Hp} (hn : h ≠ 2) (h3 : h ≠ 3) : ldH h H = H := by
  unfold ldH
  split
  · exact absurd rfl hn
  · exact absurd rfl h3
  · rfl
def opV (cx : Cx) (call : CallF) (h : Nat) (H : Hp) (ρ : Operand → V) : Op → Option (V × Hp)
  | .move x | .assign x => some (ρ x, H)
  | .pick c a b => match ρ c with
    | .p (.bool true) => some (ρ a, H)
    | .p (.bool false) => some (ρ b, H)
    | _ => none
  | .alloc t => (cx.T t).map fun ti => newBox H (ti.zero.map .p)
  | .box t x => match cx.T t with
    | some ti => match Nat.beq (ρ x).cells.length ti.size && Nat.blt 0 ti.size with
      | true => match h with
        | 2 => some (evOf (ρ x).cells, H)
        | _ => some (newBox H (ρ x).cells)
      | false => none
    | none => none
  | .build t parts => match cx.T t with
    | some ti => (buildV ti (parts.toList.map fun (i, x) => (i, ρ x))).map (·, H)
    | none => none
  | .buildSlice t n parts => match cx.T t with
    | some ti => (buildSliceV ti n (parts.toList.map fun (i, x) => (i, ρ x))).map (·, H)
    | none => none
  | .load t a => match cx.T t with
    | some ti => (loadV ti (ldH h H) (ρ a)).map (·, H)
    | none => none
  | .store t a x => match cx.T t with
    | some ti => (storeV ti H (ρ a) (ρ x)).map (.undef, ·)
    | none => none
  | .nilCheck x => (nilCheckV (ρ x)).map (·, H)
  | .binOp op t x y _ => (binV (cx.T t) op (ρ x) (ρ y)).map (·, H)
  | .unOp op _ x => match ρ x with
    | .p a => (unP op a).map fun r => (.p r, H)
    | _ => none
  | .convert src dst x => match cx.T src, cx.T dst with
    | some s, some d => match ρ x with
      | .p a => (convP s d a).map fun r => (.p r, H)
      | _ => none
    | _, _ => none
  | .makeFunc fn first cap => (makeFuncV fn (first.toList.map ρ) (cap.toList.map ρ)).map (·, H)
  | .makeSlice t l c => match cx.T t with
    | some ti => match ti.kd with
      | .slice e _ _ _ _ => match cx.T e with
        | some te => makeSliceV ti te H (ρ l) (ρ c)
        | none => none
      | _ => none
    | none => none
  | .slice t x lo hi mx => match cx.T t with
    | some ti => (sliceV ti (ρ x) (lo.map ρ) (hi.map ρ) (mx.map ρ)).map (·, H)
    | none => none
  | .fieldAddr t x f => match cx.T t with
    | some ti => (fieldAddrV ti (ρ x) f).map (·, H)
    | none => none
  | .field t x f => match cx.T t with
    | some ti => (fieldV ti (ρ x) f).map (·, H)
    | none => none
  | .indexAddr t x i => match cx.T t with
    | some ti => (indexAddrV ti (ρ x) (ρ i)).map (·, H)
    | none => none
  | .index t x i => match cx.T t with
    | some ti => (indexV ti (ρ x) (ρ i)).map (·, H)
    | none => none
  | .extract x i => (extractV i (ρ x)).map (·, H)
  | .makeMap t none => match cx.T t with
    | some { kd := .map .., .. } => some (.map H.length, H ++ [.map []])
    | _ => none
  | .lookup t m k ok => match mapTI cx t with
    | some te => (lookupV te H (ρ m) (ρ k) ok).map (·, H)
    | none => none
  | .mapUpdate t m k x => match mapTI cx t with
    | some _ => (mapUpdateV H (ρ m) (ρ k) (ρ x)).map (.undef, ·)
    | none => none
  | .call c => match c.callee with
    | .builtin b => match h with
      | 2 => pureB cx H b (c.args.toList.map ρ) c.argTypes
      | 3 => match firstP (c.args.toList.map ρ) with
        | true => builtinV cx H b (c.args.toList.map ρ) c.argTypes
        | false => none
      | _ => builtinV cx H b (c.args.toList.map ρ) c.argTypes
    | .value f => callV call h H (ρ f) (c.args.toList.map ρ)
    | .invoke _ _ => none
  | _ => none

def cls (h : Nat) : Op → Nat
  | .load .. => if h < 4 then (if h = 2 then 0 else 1) else 2
  | .store .. | .makeMap .. | .lookup .. | .mapUpdate .. => 2
  | .alloc _ | .makeSlice .. => if h < 4 then 3 else 2
  | .box .. => if h < 4 then (if h = 2 then 0 else 3) else 2
  | .call c => match c.callee with
    | .builtin .len | .builtin .min | .builtin .max => if h < 3 then 0 else 2
    | .builtin .append => if h = 2 then 0 else if h = 3 then 3 else 2
    | .builtin _ => 2
    | .value _ => if h = 0 then 0 else 2
    | .invoke .. => 2
  | _ => if h < 4 then 0 else 2

def opRun (cx : Cx) (call : CallF) (h : Nat) (H : Hp) (ρ : Operand → V) (o : Oper) : Option (V × Hp) := match Nat.ble 4 h with
  | false => opV cx call h H ρ o.op
  | true => opV cx call (h - 4) (o.op.operands.toList.foldl (fun H x => markCells H (ρ x)) H) (fun x => frzCells H (ρ x)) o.op

def wantedV (ops : List Oper) (e : Env) (o : Oper) : Option Bool := match o.guard with
  | none => some true
  | some (j, want) => match ops[j]? with
    | some { dst := some d, .. } => match look e d with
      | .p (.bool b) => some (b == want)
      | _ => none
    | _ => none
def putV (e : Env) (d : Option Nat) (v : V) : Env := match d with
  | some t => (t, v) :: e
  | none => e
def runOps (cx : Cx) (call : CallF) (hs : List (Nat × Nat)) (ops : List Oper) : Nat → List Oper → St → Option St
  | _, [], st => some st
  | i, o :: rest, st => match wantedV ops st.env o with
    | some true => match opRun cx call (hintOf hs i) st.H (ev cx st.env) o with
      | some (v, H') => runOps cx call hs ops (i + 1) rest ⟨putV st.env o.dst v, H'⟩
      | none => none
    | some false => runOps cx call hs ops (i + 1) rest ⟨putV st.env o.dst .undef, st.H⟩
    | none => none
def lowCell1 (n : Nat) : V → Bool
  | .undef | .p _ => true
  | .ptr id _ _ | .arr id _ _ _ _ | .map id => Nat.blt id n
  | _ => false
def lowCell (n : Nat) : V → Bool
  | .ev cs => cs.all (lowCell1 n)
  | v => lowCell1 n v
def lowV (n : Nat) : V → Bool
  | .agg cs => cs.all (lowCell n)
  | .tup cs => cs.all (lowCell n)
  | .fn _ a b => a.all (lowCell n) && b.all (lowCell n)
  | v => lowCell n v
def lowOb (n : Nat) : Ob → Bool
  | .box _ cs => cs.all (lowV n)
  | .arr _ _ _ es => es.all (lowV n)
  | .map _ => true
  | .dead => true
def region (cx : Cx) (call : CallF) (fi : FnI) (base : Nat) (id : Nat) (ops : List Oper) (st : St) : Option St :=
  match runOps cx call (rhOf fi.hints id).ops ops 0 ops st with
  | none => none
  | some s =>
    let e := match (rhOf fi.hints id).live with
      | some l => keep l s.env
      | none => s.env
    match (rhOf fi.hints id).trunc with
    | none => some ⟨e, s.H⟩
    | some k => match e.all (fun x => lowV (base + k) x.2) && (s.H.take (base + k)).all (lowOb (base + k)) with
      | true => some ⟨e, s.H.take (base + k)⟩
      | false => none

inductive X where
  | norm
  | exit (id : Nat)
  | ret
def resV (cx : Cx) (e : Env) (H : Hp) : List ResultVar → Option (List V)
  | [] => some []
  | .tmp t :: l => (resV cx e H l).map (look e t :: ·)
  | .cell a t :: l => match cx.T t with
    | some ti => match loadV ti H (look e a), resV cx e H l with
      | some v, some r => some (v :: r)
      | _, _ => none
    | none => none
def results (cx : Cx) (fi : FnI) (st : St) : Option V := match resV cx st.env st.H fi.results with
  | some [v] => some v
  | some vs => some (mkTup vs)
  | none => none
abbrev Ex := FnI → Nat → Code → St → Option (X × St)
def args0 : Nat → List V → Env
  | _, [] => []
  | i, v :: l => (i, v) :: args0 (i + 1) l
def callWith (cx : Cx) (ex : Ex) : CallF := fun f args H => match cx.F f with
  | none => none
  | some fi => match Nat.ble args.length fi.ntmps with
    | false => none
    | true => match ex fi H.length fi.body ⟨args0 0 args, H⟩ with
      | some (.norm, st) | some (.ret, st) => (results cx fi st).map (·, st.H)
      | _ => none
def step (cx : Cx) (ex : Ex) (fi : FnI) (base : Nat) : Code → St → Option (X × St)
  | .skip, st | .label _, st => some (.norm, st)
  | .region id ops _, st => (region cx (callWith cx ex) fi base id ops.toList st).map (.norm, ·)
  | .seq a b, st => match ex fi base a st with
    | some (.norm, st') => ex fi base b st'
    | r => r
  | .cond c a b, st => match ev cx st.env c with
    | .p (.bool true) => ex fi base a st
    | .p (.bool false) => ex fi base b st
    | _ => none
  | .block id c, st => match ex fi base c st with
    | some (.exit id', st') => match Nat.beq id' id with
      | true => some (.norm, st')
      | false => some (.exit id', st')
    | r => r
  | .loop c, st => match ex fi base c st with
    | some (.norm, st') => ex fi base (.loop c) st'
    | r => r
  | .exit id, st => some (.exit id, st)
  | .ret, st => some (.ret, st)
  | .scope c, st => ex fi base c st
  | _, _ => none
def exec (cx : Cx) : Nat → Ex
  | 0 => fun _ _ _ _ => none
  | n + 1 => fun fi base c st => step cx (exec cx n) fi base c st
def call (cx : Cx) (n : Nat) : CallF := callWith cx (exec cx n)

def tmpsOf (o : Oper) : List Nat := o.op.operands.toList.filterMap fun | .tmp t => some t | _ => none
def namesOf (ops : List Oper) (o : Oper) : List Nat := o.dst.toList ++ tmpsOf o ++ (match o.guard with | some (j, _) => ((ops[j]?).bind (·.dst)).toList | none => [])
def befores : List Oper → List Nat → List Nat
  | [], acc => acc
  | o :: l, acc => befores l (acc ++ [o.after.toList.foldl (fun s e => match Region.binds .any e with
      | true => s ||| 2 ^ e.on ||| acc.getD e.on 0
      | false => s) 0])
def softPair (hi hj : Nat) : Op → Op → Bool
  | .load .., op => Nat.blt hi 4 && ((Nat.ble 4 hj && cls (hj - 4) op == 0) || (Nat.beq hi 3 && Nat.blt hj 4 && (match op with | .call c => (match c.callee with | .builtin .append => true | _ => false) | _ => false)))
  | _, _ => false
def clash (ops : List Oper) (hi hj : Nat) (oi oj : Oper) : Bool :=
  (match oi.dst with | some t => (namesOf ops oj).contains t | none => false) ||
  (match oj.dst with | some t => (namesOf ops oi).contains t | none => false) ||
  ((cls hi oi.op == 2 && cls hj oj.op != 0) || (cls hj oj.op == 2 && cls hi oi.op != 0) || (cls hi oi.op == 3 && cls hj oj.op == 3)) && !softPair hi hj oi.op oj.op && !softPair hj hi oj.op oi.op
def edgesOk (i : Nat) (o : Oper) : Bool :=
  o.after.toList.all (fun e => !Region.binds .text e || Nat.blt e.on i) && (match o.guard with | some (j, _) => o.after.toList.any (fun e => e.on == j && Region.binds .any e) | none => true)
def zipN {α : Type} : Nat → List α → List (Nat × α)
  | _, [] => []
  | i, x :: l => (i, x) :: zipN (i + 1) l
def gcOrder (z : List (Nat × Oper)) : Nat → List Nat → List Nat
  | 0, acc => acc
  | n + 1, acc => match z.find? (fun x => !acc.contains x.1 && x.2.after.toList.all fun e => !Region.binds .gc e || acc.contains e.on) with
    | some x => gcOrder z n (acc ++ [x.1])
    | none => acc
def gcOk (ops : List Oper) (l : List Nat) : Bool :=
  (zipN 0 ops).all fun (i, o) => o.after.toList.all fun e => !Region.binds .gc e || (Nat.blt e.on ops.length && Nat.blt (l.idxOf e.on) (l.idxOf i))
def orderOk (hs : List (Nat × Nat)) (ops : List Oper) : Bool :=
  let b := befores ops []
  let z := zipN 0 ops
  (!(ops.any fun o => o.after.toList.any fun e => !Region.binds .any e) || gcOk ops (gcOrder z ops.length [])) && z.all fun (j, oj) => edgesOk j oj && z.all fun (i, oi) => !Nat.blt i j || !clash ops (hintOf hs i) (hintOf hs j) oi oj || (b.getD j 0).testBit i
def regionOk (n : Nat) (hs : List (Nat × Nat)) (ops : List Oper) (draw : Bool) : Bool :=
  ops.all (fun o => match o.dst with | some d => Nat.blt d n | none => true) && (!draw || orderOk hs ops)
def codeOk (fi : FnI) : Code → Bool
  | .region id ops draw => regionOk fi.ntmps (rhOf fi.hints id).ops ops.toList draw
  | .seq a b => codeOk fi a && codeOk fi b
  | .cond _ a b => codeOk fi a && codeOk fi b
  | .block _ c | .loop c | .scope c => codeOk fi c
  | _ => true

end Go.AX
