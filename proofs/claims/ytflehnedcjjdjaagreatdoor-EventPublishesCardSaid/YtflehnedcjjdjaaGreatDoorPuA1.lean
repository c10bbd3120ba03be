/-
  An evaluator of the model's code over pure data: values without memory ("PV"), values of a running function ("AV"), a small heap of the function's own.
  It fails ("none") wherever it does not know. What it answers is proved to be what the code does (A2 and on).
-/
import GoSem.Core.Program
import GoSem.Core.Next
import GoSem.Core.Utf8
import GoSem.Op.String
import GoSem.Instr.Lookup
set_option linter.unusedSimpArgs false
set_option linter.unusedVariables false
namespace Go.Pu

/-- Pure data. 'lst': a slice that nobody changes any more: the number of cells of an element, the elements. -/
inductive PV where
  | int (k : IntKind) (n : Int)
  | bool (b : Bool)
  | str (s : List UInt8)
  | agg (cs : List PV)
  | lst (sz : Nat) (es : List PV)
  | tup (vs : List PV)
  | nilp
  | nilf
  | fn (f : Nat)
  | nili
  | iface (t : Nat) (v : PV)
  | nilm
  | map (ks vs : List PV)
  deriving Inhabited

/-- What a temporary holds. 'ful': a slice whose capacity is its length. 'own': a slice that may be appended to: its token's block, the token's state. 'ptr': a place in a block of the evaluator's heap. 'rad': a place in memory that nobody changes: the cells from there on. 'msl': a slice of a block. 'ubool': true or false. -/
inductive AV where
  | bot
  | pv (x : PV)
  | ful (sz : Nat) (es : List PV)
  | own (b g sz : Nat) (es : List PV)
  | ptr (b o : Nat)
  | rad (cs : List AV)
  | agg (cs : List AV)
  | lst (sz : Nat) (es : List AV)
  | tup (vs : List AV)
  | fn (f : Nat) (pre post : List AV)
  | fnm (m : String) (v : AV)
  | iface (t : Nat) (v : AV)
  | map (b : Nat)
  | msl (b off len cap sz : Nat) (ag : Bool)
  | ubool
  deriving Inhabited

inductive Blk where
  | cells (cs : List AV)
  | tok (g : Nat)
  | sit (rest : List UInt8) (pos : Nat)
  | map (ks : List PV) (vs : List AV)
  | dead
  deriving Inhabited

abbrev Hp := List Blk

/-- A frame: temporaries by number, as a tree. -/
inductive Fr where
  | lf
  | nd (v : AV) (l r : Fr)

def Fr.get : Fr → Nat → AV
  | .lf, _ => .bot
  | .nd v l r, n => cond (Nat.beq n 0) v (cond (Nat.beq (n % 2) 1) (l.get (n / 2)) (r.get (n / 2 - 1)))

def Fr.set : Fr → Nat → AV → Fr
  | .lf, _, _ => .lf
  | .nd v l r, n, x => cond (Nat.beq n 0) (.nd x l r) (cond (Nat.beq (n % 2) 1) (.nd v (l.set (n / 2) x) r) (.nd v l (r.set (n / 2 - 1) x)))

def Fr.full : Nat → Fr
  | 0 => .lf
  | d + 1 => .nd .bot (.full d) (.full d)

/-- A table by number, as a tree of the same make. -/
inductive Tr (α : Type) where
  | lf
  | no (l r : Tr α)
  | nd (v : α) (l r : Tr α)

def Tr.get {α : Type} : Tr α → Nat → Option α
  | .lf, _ => none
  | .no l r, n => cond (Nat.beq n 0) none (cond (Nat.beq (n % 2) 1) (l.get (n / 2)) (r.get (n / 2 - 1)))
  | .nd v l r, n => cond (Nat.beq n 0) (some v) (cond (Nat.beq (n % 2) 1) (l.get (n / 2)) (r.get (n / 2 - 1)))

/-- The kinds of cells that are compared. -/
inductive LK where
  | i | b | s
  deriving DecidableEq, Inhabited

/-- The kinds of types, as far as the evaluator asks. -/
inductive TK where
  | int (k : IntKind) | bool | str | slice (e : Nat) | struct (fs : List (Nat × Nat)) | array (n e : Nat) | ptr (e : Nat) | map (k e : Nat) | iface | func | other
  deriving Inhabited

structure TI where
  ok : Bool
  size : Nat
  agg : Bool
  bytes : Nat
  eqk : List LK
  kd : TK
  zero : List PV
  deriving Inhabited

inductive Cls where
  | pure | shut | wide
  deriving DecidableEq, Inhabited

/-- What the evaluator is told of the program, and the choices that are free (which functions are pure, which temporaries live at a loop, which cells are made to be appended to). -/
structure Env where
  fn : Nat → Option Func
  ty : Nat → TI
  cls : Nat → Cls
  live : Nat → Nat → List Nat
  mint : Nat → Nat → List Nat
  glob : Nat → Option (List PV)
  meth : Nat → String → Option Nat
  ext : Nat → Option Nat
  redir : Nat → Nat → Nat
  real : Nat → Nat
  flag : Nat → Nat → List Nat × List Nat

def Env.esz (E : Env) (t : Nat) : Nat := match (E.ty t).kd with | .slice e => (E.ty e).size | _ => 0

def PV.cells : PV → List PV
  | .agg cs => cs
  | x => [x]

def AV.cells : AV → List AV
  | .agg cs => cs
  | .pv x => x.cells.map .pv
  | .bot => []
  | x => [x]

/-- Known, and no tuple: its cells are cells. -/
def AV.known : AV → Bool
  | .bot | .tup _ | .pv (.tup _) => false
  | _ => true

/-- As pure data, if it is such. -/
def toPV : AV → Option PV
  | .pv x => some x
  | .ful sz es => some (.lst sz es)
  | .own _ _ sz es => some (.lst sz es)
  | _ => none

def allPV : List AV → Option (List PV)
  | [] => some []
  | x :: xs => match toPV x, allPV xs with
    | some p, some ps => some (p :: ps)
    | _, _ => none

def mkAgg (cs : List AV) : AV := match allPV cs with | some ps => .pv (.agg ps) | none => .agg cs
def mkTup (cs : List AV) : AV := match allPV cs with | some ps => .pv (.tup ps) | none => .tup cs

def chunk (sz : Nat) (ag : Bool) : Nat → List PV → List PV
  | 0, _ => []
  | n + 1, cs => (if ag then .agg (cs.take sz) else match cs with | c :: _ => c | [] => .nilp) :: chunk sz ag n (cs.drop sz)

mutual
/-- As pure data for now: what slices of blocks hold at this moment; was there one? -/
def snap (H : Hp) : AV → Option (PV × Bool)
  | .pv x => some (x, false)
  | .ful sz es => some (.lst sz es, false)
  | .own _ _ sz es => some (.lst sz es, false)
  | .msl b off len _ sz ag => match H[b]? with
    | some (.cells cs) => if off + len * sz ≤ cs.length ∧ (ag = true ∨ sz = 1) then (allPV ((cs.drop off).take (len * sz))).map fun ps => (.lst sz (chunk sz ag len ps), true) else none
    | _ => none
  | .agg cs => (snaps H cs).map fun r => (.agg r.1, r.2)
  | .tup cs => (snaps H cs).map fun r => (.tup r.1, r.2)
  | _ => none
def snaps (H : Hp) : List AV → Option (List PV × Bool)
  | [] => some ([], false)
  | x :: xs => match snap H x, snaps H xs with
    | some p, some ps => some (p.1 :: ps.1, p.2 || ps.2)
    | _, _ => none
end

mutual
/-- Nothing in memory is a part of it. -/
def PV.flat : PV → Bool
  | .agg cs => PV.flats cs
  | .tup cs => PV.flats cs
  | .lst _ _ => false
  | .map _ _ => false
  | .iface _ v => v.flat
  | _ => true
def PV.flats : List PV → Bool
  | [] => true
  | x :: xs => x.flat && PV.flats xs
end

/-- As pure data of a type: an empty slice without a type takes the type's. -/
def toPVt (E : Env) (H : Hp) (t : Nat) (v : AV) : Option (PV × Bool) :=
  match v with
  | .ful sz es => if sz == E.esz t || es.isEmpty then some (.lst (E.esz t) es, false) else none
  | v => snap H v

mutual
/-- Does it lead to blocks below n alone? -/
def AV.under (n : Nat) : AV → Bool
  | .own b _ _ _ | .ptr b _ | .map b | .msl b _ _ _ _ _ => b < n
  | .rad cs | .agg cs | .lst _ cs | .tup cs => AV.unders n cs
  | .fn _ p q => AV.unders n p && AV.unders n q
  | .iface _ v => v.under n
  | .fnm _ v => v.under n
  | .bot | .pv _ | .ful _ _ | .ubool => true
def AV.unders (n : Nat) : List AV → Bool
  | [] => true
  | x :: xs => x.under n && AV.unders n xs
end

def ofConst : Value → AV
  | .int k n => .pv (.int k n)
  | .bool b => .pv (.bool b)
  | .string s => .pv (.str s.data.toList)
  | .pointer none => .pv .nilp
  | .slice none 0 0 => .ful 0 []
  | .nilFunc => .pv .nilf
  | .nilIface => .pv .nili
  | .map none => .pv .nilm
  | _ => .bot

def evalO (E : Env) (fr : Fr) : Operand → AV
  | .tmp t => fr.get t
  | .const v => ofConst v
  | .global g => match E.glob g with | some cs => .rad (cs.map .pv) | none => .bot
  | .func f => .pv (.fn f)

def pvEq : LK → PV → PV → Option Bool
  | .i, .int k a, .int k' b => if k = k' then some (a == b) else none
  | .b, .bool a, .bool b => some (a == b)
  | .s, .str a, .str b => some (a == b)
  | _, _, _ => none

def pvEqs : List LK → List PV → List PV → Option Bool
  | [], [], [] => some true
  | k :: ks, x :: xs, y :: ys => match pvEq k x y, pvEqs ks xs ys with
    | some a, some b => some (a && b)
    | _, _ => none
  | _, _, _ => none

def intO (op : BinOp) (k : IntKind) (a b : Int) : Option PV :=
  match op with
  | .add => some (.int k (k.wrap (a + b)))
  | .sub => some (.int k (k.wrap (a - b)))
  | .mul => some (.int k (k.wrap (a * b)))
  | .quo => if b = 0 then none else some (.int k (k.wrap (a.tdiv b)))
  | .rem => if b = 0 then none else some (.int k (a.tmod b))
  | .and => some (.int k (k.wrap (BitVec.ofInt k.bits a &&& BitVec.ofInt k.bits b).toNat))
  | .or => some (.int k (k.wrap (BitVec.ofInt k.bits a ||| BitVec.ofInt k.bits b).toNat))
  | .xor => some (.int k (k.wrap (BitVec.ofInt k.bits a ^^^ BitVec.ofInt k.bits b).toNat))
  | .andNot => some (.int k (k.wrap (BitVec.ofInt k.bits a &&& ~~~BitVec.ofInt k.bits b).toNat))
  | .eql => some (.bool (a == b))
  | .neq => some (.bool (a != b))
  | .lss => some (.bool (decide (a < b)))
  | .leq => some (.bool (decide (a ≤ b)))
  | .gtr => some (.bool (decide (a > b)))
  | .geq => some (.bool (decide (a ≥ b)))
  | _ => none

def shiftO (op : BinOp) (k : IntKind) (a b : Int) : Option PV :=
  if b < 0 then none else
  match op with
  | .shl => some (.int k (k.wrap (a * 2 ^ (min b.toNat k.bits))))
  | .shr => some (.int k (a.fdiv (2 ^ (min b.toNat k.bits))))
  | _ => none

def strO (op : BinOp) (a b : List UInt8) : Option PV :=
  match op with
  | .add => if a.length + b.length ≤ 9223372036854775807 then some (.str (a ++ b)) else none
  | .eql => some (.bool (a == b))
  | .neq => some (.bool (!(a == b)))
  | .lss => some (.bool (Op.bytesLess a b))
  | .leq => some (.bool (Op.bytesLess a b || a == b))
  | .gtr => some (.bool (!(Op.bytesLess a b || a == b)))
  | .geq => some (.bool (!(Op.bytesLess a b)))
  | _ => none

/-- A slice: is it empty? -/
def emptyOf : AV → Option Bool
  | .pv (.lst _ es) | .ful _ es | .own _ _ _ es => some es.isEmpty
  | _ => none

/-- A slice against nil: an empty one may be nil. -/
def nilSl (op : BinOp) (x : AV) : Option AV :=
  match op, emptyOf x with
  | .eql, some e => some (cond e .ubool (.pv (.bool false)))
  | .neq, some e => some (cond e .ubool (.pv (.bool true)))
  | _, _ => none

def isNilS : Operand → Bool
  | .const (.slice none 0 0) => true
  | _ => false

/-- Is a value of the kind nil? -/
def nilOf (kd : TK) (v : AV) : Option Bool :=
  match kd, v with
  | .ptr _, .pv .nilp | .func, .pv .nilf | .map _ _, .pv .nilm | .iface, .pv .nili => some true
  | .ptr _, .ptr _ _ | .ptr _, .rad _ | .func, .pv (.fn _) | .func, .fn _ _ _ | .func, .fnm _ _ | .map _ _, .map _ | .map _ _, .pv (.map _ _) | .iface, .iface _ _ | .iface, .pv (.iface _ _) => some false
  | _, _ => none

/-- Equality of two values that are no numbers and no texts. -/
def eqO (ti : TI) (a b : AV) : Option Bool :=
  match ti.kd with
  | .bool => match a, b with
    | .pv (.bool a), .pv (.bool b) => some (a == b)
    | _, _ => none
  | .struct _ => match ti.eqk, a, b with
    | k :: ks, .pv (.agg a), .pv (.agg b) => pvEqs (k :: ks) a b
    | _, _, _ => none
  | .iface => match nilOf .iface a, nilOf .iface b with
    | some x, some y => cond (x == y) none (some false)
    | _, _ => none
  | kd => match nilOf kd a, nilOf kd b with
    | some true, some y => some y
    | some false, some true => some false
    | _, _ => none

def isShift : BinOp → Bool
  | .shl | .shr => true
  | _ => false

def binO (ti : TI) (op : BinOp) (x y : AV) : Option AV :=
  match x, y with
  | .pv (.int k a), .pv (.int k' b) =>
    if isShift op then (shiftO op k a b).map .pv else if k = k' then (intO op k a b).map .pv else none
  | .pv (.str a), .pv (.str b) => (strO op a b).map .pv
  | x, y => match op with
    | .eql => (eqO ti x y).map fun b => .pv (.bool b)
    | .neq => (eqO ti x y).map fun b => .pv (.bool (!b))
    | _ => none

def unO (op : UnOp) (x : AV) : Option AV :=
  match op, x with
  | .neg, .pv (.int k n) => (intO .sub k 0 n).map .pv
  | .xor, .pv (.int k n) => (intO .xor k (if k.signed then -1 else k.max) n).map .pv
  | .not, .pv (.bool b) => some (.pv (.bool (!b)))
  | _, _ => none

def pickO (c a b : AV) : Option AV :=
  match c with
  | .pv (.bool t) => some (cond t a b)
  | _ => none

def encB (b : UInt8) : PV := .int .u8 b.toNat
def asByte : PV → Option UInt8
  | .int .u8 n => some (UInt8.ofNat n.toNat)
  | _ => none
def asBytes : List PV → Option (List UInt8)
  | [] => some []
  | x :: xs => match asByte x, asBytes xs with
    | some b, some bs => some (b :: bs)
    | _, _ => none

def isU8 (E : Env) (t : Nat) : Bool := match (E.ty t).kd with | .int .u8 => true | _ => false

/-- The text that bytes of a slice are. -/
def bytesO (H : Hp) (x : AV) : Option (List UInt8) :=
  match x with
  | .msl b off len _ 1 _ => match H[b]? with
    | some (.cells cs) => if off + len ≤ cs.length then (allPV ((cs.drop off).take len)).bind asBytes else none
    | _ => none
  | x => match toPV x with
    | some (.lst _ es) => asBytes es
    | _ => none

def convO (E : Env) (src dst : Nat) (H : Hp) (x : AV) : Option AV :=
  if (E.ty src).ok then
    match (E.ty dst).kd, x with
    | .int k, .pv (.int _ n) => some (.pv (.int k (k.wrap n)))
    | .str, .pv (.str s) => some (.pv (.str s))
    | .str, .pv (.int _ n) => some (.pv (.str (Utf8.encode n).data.toList))
    | .str, x => match (E.ty src).kd with
      | .slice e => if isU8 E e then (bytesO H x).map fun s => .pv (.str s) else none
      | _ => none
    | _, _ => none
  else none

/-- A text as bytes in new memory that nobody changes. -/
def convB (E : Env) (src dst : Nat) (x : AV) : Option AV :=
  match (E.ty src).kd, (E.ty dst).kd, x with
  | .str, .slice e, .pv (.str s) => if isU8 E e then some (.pv (.lst 1 (s.map encB))) else none
  | _, _, _ => none

def fieldOf (E : Env) (t i : Nat) : Option (Nat × Nat) := match (E.ty t).kd with | .struct fs => fs[i]? | _ => none

def partO (E : Env) (t off : Nat) (cs : List AV) : Option AV :=
  if (E.ty t).agg then (if off + (E.ty t).size ≤ cs.length then some (mkAgg ((cs.drop off).take (E.ty t).size)) else none) else if (E.ty t).size = 1 then cs[off]? else none

def fieldO (E : Env) (t : Nat) (x : AV) (i : Nat) : Option AV :=
  match fieldOf E t i, x with
  | some (off, ft), .pv (.agg cs) => partO E ft off (cs.map .pv)
  | some (off, ft), .agg cs => partO E ft off cs
  | _, _ => none

def fadrO (E : Env) (t : Nat) (x : AV) (i : Nat) : Option AV :=
  match fieldOf E t i, x with
  | some (off, ft), .ptr b o => if (E.ty ft).size = 0 then none else some (.ptr b (o + off))
  | some (off, ft), .rad cs => if (E.ty ft).size = 0 then none else some (.rad (cs.drop off))
  | _, _ => none

/-- An index, if it is a number from 0 to below n. -/
def idxO (i : AV) (n : Nat) : Option Nat :=
  match i with
  | .pv (.int _ i) => if 0 ≤ i ∧ i < n then some i.toNat else none
  | _ => none

def indexO (E : Env) (t : Nat) (x i : AV) : Option AV :=
  match (E.ty t).kd, x with
  | .str, .pv (.str s) => (idxO i s.length).bind fun j => (s[j]?).map fun b => .pv (.int .u8 b.toNat)
  | .array n e, .pv (.agg cs) => (idxO i n).bind fun j => partO E e (j * (E.ty e).size) (cs.map .pv)
  | .array n e, .agg cs => (idxO i n).bind fun j => partO E e (j * (E.ty e).size) cs
  | _, _ => none

def elemO (sz size : Nat) (es : List PV) (i : AV) : Option AV :=
  if sz == size then (idxO i es.length).bind fun j => (es[j]?).map fun e => .rad (e.cells.map .pv) else none

def iadrO (E : Env) (t : Nat) (x i : AV) : Option AV :=
  match (E.ty t).kd with
  | .slice e =>
    match x with
    | .pv (.lst sz es) => elemO sz (E.ty e).size es i
    | .ful sz es => elemO sz (E.ty e).size es i
    | .own _ _ sz es => elemO sz (E.ty e).size es i
    | .lst sz es => if sz == (E.ty e).size then (idxO i es.length).bind fun j => (es[j]?).map fun e => .rad e.cells else none
    | .msl b off len _ sz _ => if sz == (E.ty e).size then (idxO i len).map fun j => .ptr b (off + j * sz) else none
    | _ => none
  | .array n e =>
    match x with
    | .ptr b o => (idxO i n).map fun j => .ptr b (o + j * (E.ty e).size)
    | .rad cs => (idxO i n).map fun j => .rad (cs.drop (j * (E.ty e).size))
    | _ => none
  | _ => none

def boundO (d : Nat) (hi : Nat) : Option AV → Option Nat
  | none => some d
  | some v => idxO v (hi + 1)

def cutO (sz : Nat) (es : List PV) (full : Bool) (l h : Nat) : AV :=
  if full then .ful sz ((es.drop l).take (h - l)) else .pv (.lst sz ((es.drop l).take (h - l)))

/-- s[lo:hi:mx] of a slice that nobody changes: hi is at most its length; with mx, mx is hi. -/
def cutsO (sz : Nat) (es : List PV) (lo hi mx : Option AV) : Option AV :=
  (boundO es.length es.length hi).bind fun h => (boundO 0 h lo).bind fun l =>
    match mx with
    | none => some (cutO sz es false l h)
    | some m => if hi.isNone then none else (idxO m (es.length + 1)).bind fun m => if m = h then some (cutO sz es true l h) else none

def sliceO (E : Env) (t : Nat) (x : AV) (lo hi mx : Option AV) : Option AV :=
  match (E.ty t).kd, x with
  | .str, .pv (.str s) => if mx.isSome then none else
      (boundO s.length s.length hi).bind fun h => (boundO 0 h lo).map fun l => .pv (.str ((s.drop l).take (h - l)))
  | .slice e, .pv (.lst sz es) => if sz == (E.ty e).size || es.isEmpty then cutsO sz es lo hi mx else none
  | .slice e, .ful sz es => if sz == (E.ty e).size || es.isEmpty then cutsO sz es lo hi mx else none
  | .slice e, .own _ _ sz es => if sz == (E.ty e).size || es.isEmpty then cutsO sz es lo hi mx else none
  | .slice e, .msl b off len cap sz ag => if sz == (E.ty e).size && mx.isNone then
      (boundO len cap hi).bind fun h => (boundO 0 h lo).map fun l => .msl b (off + l * sz) (h - l) (cap - l) sz ag
    else none
  | .array n e, .ptr b o => if mx.isNone then
      (boundO n n hi).bind fun h => (boundO 0 h lo).map fun l => .msl b (o + l * (E.ty e).size) (h - l) (n - l) (E.ty e).size (E.ty e).agg
    else none
  | _, _ => none

def lenO (kd : TK) (H : Hp) (v : AV) : Option AV :=
  match kd, v with
  | .str, .pv (.str s) => some (.pv (.int .i64 s.length))
  | .slice _, .pv (.lst _ es) | .slice _, .ful _ es | .slice _, .own _ _ _ es => some (.pv (.int .i64 es.length))
  | .slice _, .lst _ es => some (.pv (.int .i64 es.length))
  | .slice _, .msl _ _ len _ _ _ => some (.pv (.int .i64 len))
  | .array n _, _ => some (.pv (.int .i64 n))
  | .map _ _, .pv .nilm => some (.pv (.int .i64 0))
  | .map _ _, .pv (.map ks _) => some (.pv (.int .i64 ks.length))
  | .map _ _, .map b => match H[b]? with
    | some (.map ks _) => some (.pv (.int .i64 ks.length))
    | _ => none
  | _, _ => none

/-- What a slice is made of, if nobody changes it (a text: its bytes). -/
def elemsOf : AV → Option (Nat × List PV)
  | .pv (.lst sz es) | .ful sz es | .own _ _ sz es => some (sz, es)
  | .pv (.str s) => some (1, s.map encB)
  | _ => none

def room (n bytes : Nat) : Bool := Nat.ble (n * bytes) 140737488355328

def isSeq : TK → Bool
  | .slice _ | .str => true
  | _ => false

def appO (E : Env) (t t2 : Nat) (H : Hp) (s x : AV) : Option (AV × Hp) :=
  match (E.ty t).kd with
  | .slice e =>
    if isSeq (E.ty t2).kd && Nat.beq (E.ty e).zero.length (E.ty e).size && Nat.ble 1 (E.ty e).bytes && Nat.ble 1 (E.ty e).size then
      match elemsOf x with
      | some (zy, ys) =>
        if zy == (E.ty e).size || ys.isEmpty then
          match s with
          | .ful sz es => if (sz == (E.ty e).size || es.isEmpty) && room (es.length + ys.length) (E.ty e).bytes then
              some (.own H.length 0 (E.ty e).size (es ++ ys), H ++ [.tok 0]) else none
          | .own b g sz es => if (sz == (E.ty e).size || (es.isEmpty && Nat.beq sz 0)) && room (es.length + ys.length) (E.ty e).bytes then
              match H[b]? with
              | some (.tok g') => if g == g' then some (.own b (g + 1) (E.ty e).size (es ++ ys), H.set b (.tok (g + 1))) else none
              | _ => none
            else none
          | _ => none
        else none
      | none => none
    else none
  | _ => none

def kindOfKey : PV → LK
  | .int _ _ => .i
  | .bool _ => .b
  | _ => .s

def mapFind {α : Type} (k : PV) : List PV → List α → Option (Option α)
  | [], [] => some none
  | k' :: ks, v :: vs => match pvEq (kindOfKey k) k k' with
    | some true => some (some v)
    | some false => mapFind k ks vs
    | none => none
  | _, _ => none

def zeroOf (E : Env) (t : Nat) : AV := if (E.ty t).zero.length ≠ (E.ty t).size then .bot else if (E.ty t).agg then .pv (.agg (E.ty t).zero) else match (E.ty t).zero with | [z] => .pv z | _ => .bot

/-- Is it a key of the kind? -/
def keyIs : TK → PV → Bool
  | .int _, .int _ _ | .str, .str _ | .bool, .bool _ => true
  | _, _ => false

/-- A map's keys and values. -/
def mapAt (H : Hp) (m : AV) : Option (List PV × List AV) :=
  match m with
  | .pv .nilm => some ([], [])
  | .pv (.map ks vs) => some (ks, vs.map AV.pv)
  | .map b => match H[b]? with
    | some (.map ks vs) => some (ks, vs)
    | _ => none
  | _ => none

def lookO (E : Env) (t : Nat) (H : Hp) (m k : AV) (ok : Bool) : Option AV :=
  match (E.ty t).kd, k with
  | .map kt e, .pv k =>
    if keyIs (E.ty kt).kd k && Nat.beq (E.ty e).zero.length (E.ty e).size then
      (mapAt H m).bind fun r => (mapFind k r.1 r.2).map fun r =>
        if ok then (match r with | some v => mkTup [v, .pv (.bool true)] | none => mkTup [zeroOf E e, .pv (.bool false)])
        else (match r with | some v => v | none => zeroOf E e)
    else none
  | _, _ => none

def mapPut (k : PV) (v : AV) : List PV → List AV → Option (List PV × List AV)
  | [], [] => some ([k], [v])
  | k' :: ks, v' :: vs => match pvEq (kindOfKey k) k k' with
    | some true => some (k' :: ks, v :: vs)
    | some false => (mapPut k v ks vs).map fun (a, b) => (k' :: a, v' :: b)
    | none => none
  | _, _ => none

def okTo (bases : List Nat) (b : Nat) (v : AV) : Bool := bases.all fun B => Nat.ble B b || v.under B

def mputO (E : Env) (t : Nat) (bases : List Nat) (H : Hp) (m k v : AV) : Option Hp :=
  match (E.ty t).kd, m, k with
  | .map kt _, .map b, .pv k => if keyIs (E.ty kt).kd k && okTo bases b v then
      match H[b]? with
      | some (.map ks vs) => (mapPut k v ks vs).map fun (a, c) => H.set b (.map a c)
      | _ => none
    else none
  | _, _, _ => none

def loadO (E : Env) (t : Nat) (H : Hp) (a : AV) : Option AV :=
  match a with
  | .ptr b o => match H[b]? with
    | some (.cells cs) => partO E t o cs
    | _ => none
  | .rad cs => partO E t 0 cs
  | _ => none

/-- A slice without room that is stored where one stands that may be appended to: it takes over its token. -/
def retok (H : Hp) : List AV → List AV → List AV × Hp
  | .own b _ _ _ :: olds, .ful sz es :: vs => match H[b]? with
    | some (.tok g) => (.own b (g + 1) sz es :: (retok (H.set b (.tok (g + 1))) olds vs).1, (retok (H.set b (.tok (g + 1))) olds vs).2)
    | _ => (.ful sz es :: (retok H olds vs).1, (retok H olds vs).2)
  | _ :: olds, v :: vs => (v :: (retok H olds vs).1, (retok H olds vs).2)
  | [], vs => (vs, H)
  | _, [] => ([], H)

def storeO (E : Env) (bases : List Nat) (t : Nat) (H : Hp) (a v : AV) : Option Hp :=
  match a with
  | .ptr b o => match H[b]? with
    | some (.cells cs) =>
      if (E.ty t).ok = true ∧ v.known = true ∧ v.cells.length = (E.ty t).size ∧ o + v.cells.length ≤ cs.length ∧ okTo bases b v = true then
        some ((retok H (cs.drop o) v.cells).2.set b (.cells (cs.take o ++ (retok H (cs.drop o) v.cells).1 ++ cs.drop (o + v.cells.length))))
      else none
    | _ => none
  | _ => none

def setMany (cs : List AV) (off : Nat) (vs : List AV) : List AV := cs.take off ++ vs ++ cs.drop (off + vs.length)

def fillO (E : Env) (pl : Nat → Option (Nat × Nat)) (ev : Operand → AV) : List (Nat × Operand) → List AV → Option (List AV)
  | [], cs => some cs
  | (i, x) :: r, cs => match pl i with
    | some (off, t) => if (ev x).known = true ∧ (ev x).cells.length = (E.ty t).size ∧ off + (E.ty t).size ≤ cs.length then
        fillO E pl ev r (setMany cs off (match ev x with
          | .ful sz es => [if sz == E.esz t || es.isEmpty then .ful (E.esz t) es else .ful sz es]
          | v => v.cells)) else none
    | none => none

/-- A zero variable: its cells; those that are to be appended to are known to have no room. -/
def zeroC (mint : List Nat) (cs : List PV) : List AV :=
  cs.zipIdx.map fun (c, i) => if mint.contains i then (match c with | .lst sz [] => .ful sz [] | c => .pv c) else .pv c

def buildO (E : Env) (ev : Operand → AV) (t : Nat) (ps : List (Nat × Operand)) (mint : List Nat) : Option AV :=
  match (E.ty t).kd with
  | .struct fs => if (E.ty t).zero.length ≠ (E.ty t).size then none else (fillO E (fs[·]?) ev ps (zeroC mint (E.ty t).zero)).map fun cs => if !mint.isEmpty then .agg cs else mkAgg cs
  | .array n e => if (E.ty t).zero.length ≠ (E.ty t).size then none else (fillO E (fun i => if i < n then some (i * (E.ty e).size, e) else none) ev ps (zeroC mint (E.ty t).zero)).map fun cs => if !mint.isEmpty then .agg cs else mkAgg cs
  | _ => none

/-- The parts of a slice that is written out, if they stand in order and none lacks. -/
def partsO (ev : Operand → AV) (size : Nat) : Nat → List (Nat × Operand) → Option (List AV)
  | _, [] => some []
  | i, (j, x) :: r => if i = j ∧ (ev x).known = true ∧ (ev x).cells.length = size then (partsO ev size (i + 1) r).map (ev x :: ·) else none

def bsliceO (E : Env) (ev : Operand → AV) (t n : Nat) (ps : List (Nat × Operand)) : Option AV :=
  match (E.ty t).kd with
  | .slice e => if ps.length = n ∧ n * (E.ty e).size ≤ 16777216 ∧ (E.ty e).zero.length = (E.ty e).size then
      (partsO ev (E.ty e).size 0 ps).map fun vs => match allPV vs with
        | some es => .ful (E.ty e).size es
        | none => .lst (E.ty e).size vs
    else none
  | _ => none

def nilcO (E : Env) : AV → Option AV
  | .ptr b o => some (.ptr b o)
  | .rad cs => some (.rad cs)
  | .pv (.fn f) => some (.pv (.fn f))
  | .fn f p q => some (.fn f p q)
  | .fnm m (.iface t v) => (E.meth t m).map fun _ => .fnm m (.iface t v)
  | .fnm m (.pv (.iface t v)) => (E.meth t m).map fun _ => .fnm m (.pv (.iface t v))
  | .iface t v => some (.iface t v)
  | .pv (.iface t v) => some (.pv (.iface t v))
  | _ => none

def extrO (x : AV) (i : Nat) : Option AV :=
  match x with
  | .pv (.tup vs) => (vs[i]?).map .pv
  | .tup vs => vs[i]?
  | _ => none

def mkfnO (f : Fn) (a b : List AV) : Option AV :=
  match f with
  | .func f => match a, b with
    | [], [] => some (.pv (.fn f))
    | a, b => some (.fn f a b)
  | .method m => match a, b with
    | [x], [] => some (.fnm m x)
    | _, _ => none
  | _ => none

def minmaxO (lt : Int → Int → Bool) : AV → AV → Option AV
  | .pv (.int k a), .pv (.int k' b) => if k = k' then some (.pv (.int k (if lt b a then b else a))) else none
  | _, _ => none

def minmaxsO (lt : Int → Int → Bool) : AV → List AV → Option AV
  | x, [] => some x
  | x, y :: ys => (minmaxO lt x y).bind fun z => minmaxsO lt z ys

def rangeO (E : Env) (t : Nat) (H : Hp) (x : AV) : Option (AV × Hp) :=
  match (E.ty t).kd, x with
  | .str, .pv (.str s) => some (.ptr H.length 0, H ++ [.sit s 0])
  | _, _ => none

/-- The code point that bytes begin with, and its width (as the model's 'Utf8.decode'). -/
def runeAt : List UInt8 → Nat × Nat := fun s => Utf8.decode ⟨s.toArray⟩ 0

def nextO (H : Hp) (x : AV) (isStr : Bool) : Option (AV × Hp) :=
  match x with
  | .ptr b 0 => match H[b]? with
    | some (.sit rest pos) => if isStr then
        if rest.isEmpty then some (.pv (.tup [.bool false]), H)
        else
          let (c, n) := runeAt rest
          some (.pv (.tup [.bool true, .int .i64 pos, .int .i32 c]), H.set b (.sit (rest.drop n) (pos + n)))
      else none
    | _ => none
  | _ => none

def makeSlO (E : Env) (t : Nat) (H : Hp) (l c : AV) : Option (AV × Hp) :=
  match (E.ty t).kd, l, c with
  | .slice e, .pv (.int _ l), .pv (.int _ c) =>
    if 0 ≤ l ∧ l ≤ c ∧ room c.toNat (E.ty e).bytes = true ∧ c < 9223372036854775808 ∧ (E.ty e).size = (E.ty e).zero.length then
      some (.msl H.length 0 l.toNat c.toNat (E.ty e).size (E.ty e).agg, H ++ [.cells ((List.replicate c.toNat ((E.ty e).zero.map AV.pv)).flatten)])
    else none
  | _, _, _ => none

def ifaceO (x : AV) (t : Nat) : AV := match x with | .pv x => .pv (.iface t x) | x => .iface t x

def assertO (E : Env) (x : AV) (to : Nat) (ok : Bool) : Option AV :=
  match (E.ty to).kd with
  | .iface => none
  | .other => none
  | _ => if (E.ty to).zero.length ≠ (E.ty to).size then none else
    match x with
    | .pv (.iface t v) => if t = to then some (if ok then mkTup [.pv v, .pv (.bool true)] else .pv v) else if ok then some (mkTup [zeroOf E to, .pv (.bool false)]) else none
    | .iface t v => if t = to then some (if ok then mkTup [v, .pv (.bool true)] else v) else if ok then some (mkTup [zeroOf E to, .pv (.bool false)]) else none
    | .pv .nili => if ok then some (mkTup [zeroOf E to, .pv (.bool false)]) else none
    | _ => none

def isSl : TK → Bool | .slice _ => true | _ => false

/-! ### What a function does -/

inductive Ex where
  | nrm
  | ext (id : Nat)
  | ret
  deriving Inhabited

structure St where
  fr : Fr
  hp : Hp

abbrev Res := AV × Hp

/-- A call of a function on pure data; a call of a function that is led to blocks. -/
structure Oracle where
  pure : Nat → List PV → Option PV
  shut : List Nat → Nat → List AV → Hp → Option (AV × Hp)

/-- The arguments of a pure call, as the parameters' types have them; is there a slice of a block among them? -/
def argsO (E : Env) (H : Hp) : List Nat → List AV → Option (List PV × Bool)
  | [], [] => some ([], false)
  | t :: ts, v :: vs => match toPVt E H t v, argsO E H ts vs with
    | some p, some ps => some (p.1 :: ps.1, p.2 || ps.2)
    | _, _ => none
  | _, _ => none

/-- Functions of the library that have no text: the place of a byte; how often it stands there. -/
def extO (n : Nat) (as : List AV) : Option AV :=
  match n, as with
  | 0, [.pv (.str s), .pv (.int .u8 b)] => some (.pv (.int .i64 (match s.findIdx? (· == UInt8.ofNat b.toNat) with | some i => (i : Int) | none => -1)))
  | 2, [.pv (.lst sz es)] | 2, [.ful sz es] | 2, [.own _ _ sz es] => some (.pv (.lst sz es))
  | 1, [.pv (.str s), .pv (.int .u8 b)] => some (.pv (.int .i64 (s.countP (· == UInt8.ofNat b.toNat))))
  | _, _ => none

def callO (E : Env) (c : Oracle) (bases : List Nat) (f g : Nat) (as : List AV) (H : Hp) : Option (AV × Hp) :=
  match E.ext g with
  | some n => (extO n as).map fun v => (v, H)
  | none =>
  match E.cls (E.redir f g) with
  | .pure => match E.fn (E.redir f g) with
    | some fn => (argsO E H fn.params.toList as).bind fun ps => (c.pure (E.redir f g) ps.1).bind fun r => cond (!ps.2 || r.flat) (some (.pv r, H)) none
    | none => none
  | _ => c.shut bases (E.redir f g) as H

def invokeO (E : Env) (c : Oracle) (bases : List Nat) (f : Nat) (v : AV) (m : String) (as : List AV) (H : Hp) : Option (AV × Hp) :=
  match v with
  | .pv (.iface t x) => (E.meth t m).bind fun g => callO E c bases f g (.pv x :: as) H
  | .iface t x => (E.meth t m).bind fun g => callO E c bases f g (x :: as) H
  | _ => none

def calleeO (E : Env) (c : Oracle) (bases : List Nat) (f : Nat) (v : AV) (as : List AV) (H : Hp) : Option (AV × Hp) :=
  match v with
  | .pv (.fn g) => callO E c bases f g as H
  | .fn g p q => callO E c bases f g (p ++ as ++ q) H
  | .fnm m v => invokeO E c bases f v m as H
  | _ => none

/-- The cells of a new variable; those that are to be appended to get their tokens. -/
def mintC : List Nat → List AV → Hp → List AV × Hp
  | [], cs, H => (cs, H)
  | i :: is, cs, H => match cs[i]? with
    | some (.ful sz es) => mintC is (cs.set i (.own H.length 0 sz es)) (H ++ [.tok 0])
    | _ => mintC is cs H

def newO (mint : List Nat) (cs : List AV) (H : Hp) : AV × Hp :=
  match mint with
  | [] => (.ptr H.length 0, H ++ [.cells cs])
  | is => (.ptr (mintC is cs H).2.length 0, (mintC is cs H).2 ++ [.cells (mintC is cs H).1])

def callB (E : Env) (H : Hp) (b : Builtin) (ts : List Nat) (as : List AV) : Option (AV × Hp) :=
  match b, as with
  | .len, [x] => (match ts with | t :: _ => (lenO (E.ty t).kd H x).map fun v => (v, H) | [] => none)
  | .append, [s, x] => (match ts with | [t, t2] => appO E t t2 H s x | _ => none)
  | .min, x :: xs => (minmaxsO (fun a b => decide (a < b)) x xs).map fun v => (v, H)
  | .max, x :: xs => (minmaxsO (fun a b => decide (a > b)) x xs).map fun v => (v, H)
  | _, _ => none

/-- In a region whose order is open: the heap's length at its begin; the operations that are told to read blocks that were there before and are not 'apart' (loads), or to write other ones (stores). -/
structure Draw where
  n0 : Nat
  flags : List Nat
  apart : List Nat

def ptrs (fr : Fr) : List Nat → List Nat
  | [] => []
  | d :: ds => match fr.get d with
    | .ptr b _ => b :: ptrs fr ds
    | _ => ptrs fr ds

def isNew : Op → Bool
  | .alloc _ | .box _ _ => true
  | _ => false

def newsOf (ops : List Oper) : Nat := ops.countP fun o => isNew o.op

/-- A new variable: in a region whose order is open its block waits for it. -/
def newD (dr : Option Draw) (rank : Nat) (mint : List Nat) (cs : List AV) (H : Hp) : Option (AV × Hp) :=
  match dr with
  | none => some (newO mint cs H)
  | some d => match mint, H[d.n0 + rank]? with
    | [], some .dead => some (.ptr (d.n0 + rank) 0, H.set (d.n0 + rank) (.cells cs))
    | _, _ => none

def oldOk (dr : Option Draw) (i : Nat) (a : AV) : Bool :=
  match dr with
  | none => true
  | some d => cond (d.flags.contains i) (match a with | .ptr b _ => Nat.ble (b + 1) d.n0 && !d.apart.contains b | .rad _ => true | _ => false) true

def freshOk (dr : Option Draw) (i : Nat) (a : AV) : Bool :=
  match dr with
  | none => true
  | some d => cond (d.flags.contains i) (match a with | .ptr b _ => Nat.ble d.n0 b || d.apart.contains b | _ => false) true

/-- One operation. 'f': the function's number; 'bases': blocks below one of them may not be led to blocks from it on; 'i': its place in its region; 'rank': how many new variables stand before it. -/
def opO (E : Env) (c : Oracle) (f : Nat) (bases : List Nat) (dr : Option Draw) (i rank : Nat) (o : Oper) (st : St) : Option (AV × Hp) :=
  let ev := evalO E st.fr
  let H := st.hp
  let v (x : Option AV) : Option (AV × Hp) := x.map fun v => (v, H)
  let u (x : Option Hp) : Option (AV × Hp) := x.map fun H => (.pv (.tup []), H)
  match o.op with
  | .move x | .assign x => some (ev x, H)
  | .pick a b d => v (pickO (ev a) (ev b) (ev d))
  | .alloc t => cond ((E.ty t).ok && Nat.beq (E.ty t).zero.length (E.ty t).size) (newD dr rank (E.mint f (o.dst.getD 0)) (zeroC (E.mint f (o.dst.getD 0)) (E.ty t).zero) H) none
  | .box t x => cond ((E.ty t).ok && (ev x).known && Nat.beq (ev x).cells.length (E.ty t).size) (newD dr rank (E.mint f (o.dst.getD 0)) (ev x).cells H) none
  | .build t ps => v (buildO E ev t ps.toList (E.mint f (o.dst.getD 0)))
  | .buildSlice t n ps => v (bsliceO E ev t n ps.toList)
  | .load t a => cond (oldOk dr i (ev a)) (v (loadO E t H (ev a))) none
  | .store t a x => cond (freshOk dr i (ev a)) (u (storeO E bases t H (ev a) (ev x))) none
  | .nilCheck x => v (nilcO E (ev x))
  | .binOp op t x y _ => v (cond (isNilS y && isSl (E.ty t).kd) (nilSl op (ev x)) (binO (E.ty t) op (ev x) (ev y)))
  | .unOp op _ x => v (unO op (ev x))
  | .convert s d x => (match (E.ty d).kd with | .slice _ => v (convB E s d (ev x)) | _ => v (convO E s d H (ev x)))
  | .makeInterface t x => (match (E.ty t).kd with | .iface | .other => none | _ => some (ifaceO (ev x) t, H))
  | .makeFunc g a b => v (mkfnO g (a.toList.map ev) (b.toList.map ev))
  | .makeMap _ none => some (.map H.length, H ++ [.map [] []])
  | .makeSlice t l m => makeSlO E t H (ev l) (ev m)
  | .slice t x l h m => v (sliceO E t (ev x) (l.map ev) (h.map ev) (m.map ev))
  | .fieldAddr t x i => v (fadrO E t (ev x) i)
  | .field t x i => v (fieldO E t (ev x) i)
  | .indexAddr t x i => v (iadrO E t (ev x) (ev i))
  | .index t x i => v (indexO E t (ev x) (ev i))
  | .lookup t m k ok => v (lookO E t H (ev m) (ev k) ok)
  | .mapUpdate t m k x | .insert t m k x => u (mputO E t bases H (ev m) (ev k) (ev x))
  | .range t x => rangeO E t H (ev x)
  | .next x s => nextO H (ev x) s
  | .typeAssert x _ t ok => v (assertO E (ev x) t ok)
  | .extract x i => v (extrO (ev x) i)
  | .call k => match k.callee with
    | .value g => calleeO E c bases f (ev g) (k.args.toList.map ev) H
    | .invoke r m => invokeO E c bases f (ev r) m (k.args.toList.map ev) H
    | .builtin b => callB E H b k.argTypes.toList (k.args.toList.map ev)
  | _ => none

def putO (st : St) (d : Option Nat) (r : AV × Hp) : St := match d with | some d => ⟨st.fr.set d r.1, r.2⟩ | none => ⟨st.fr, r.2⟩

/-- The operations of a region, in the text's order, from place i on. -/
def regK {R : Type} (E : Env) (c : Oracle) (f : Nat) (bases : List Nat) (dr : Option Draw) (ops : Array Oper) : List Oper → (i rank : Nat) → St → (St → Option R) → Option R
  | [], _, _, st, k => k st
  | o :: os, i, rank, st, k =>
    match o.guard with
    | none => (opO E c f bases dr i rank o st).bind fun r => regK E c f bases dr ops os (i + 1) (cond (isNew o.op) (rank + 1) rank) (putO st o.dst r) k
    | some (j, want) =>
      match (ops[j]?).bind (·.dst) with
      | none => none
      | some d => match st.fr.get d with
        | .pv (.bool b) => cond b
            (cond want ((opO E c f bases dr i rank o ⟨st.fr.set d (.pv (.bool true)), st.hp⟩).bind fun r => regK E c f bases dr ops os (i + 1) (cond (isNew o.op) (rank + 1) rank) (putO ⟨st.fr.set d (.pv (.bool true)), st.hp⟩ o.dst r) k)
              (regK E c f bases dr ops os (i + 1) (cond (isNew o.op) (rank + 1) rank) (putO ⟨st.fr.set d (.pv (.bool true)), st.hp⟩ o.dst (.pv (.tup []), st.hp)) k))
            (cond want (regK E c f bases dr ops os (i + 1) (cond (isNew o.op) (rank + 1) rank) (putO ⟨st.fr.set d (.pv (.bool false)), st.hp⟩ o.dst (.pv (.tup []), st.hp)) k)
              ((opO E c f bases dr i rank o ⟨st.fr.set d (.pv (.bool false)), st.hp⟩).bind fun r => regK E c f bases dr ops os (i + 1) (cond (isNew o.op) (rank + 1) rank) (putO ⟨st.fr.set d (.pv (.bool false)), st.hp⟩ o.dst r) k))
        | .pv (.tup []) => regK E c f bases dr ops os (i + 1) (cond (isNew o.op) (rank + 1) rank) (putO st o.dst (.pv (.tup []), st.hp)) k
        | _ => none

/-- At a loop's head: the temporaries that live, the blocks that were there when it began. -/
def liveV (fr : Fr) (live : List Nat) : List AV := live.map fr.get
def frOf (n : Nat) : List Nat → List AV → Fr
  | d :: ds, v :: vs => (frOf n ds vs).set d v
  | _, _ => Fr.full n

/-- Those that live and may be appended to get their tokens. -/
def mintL : List AV → Hp → List AV × Hp
  | [], H => ([], H)
  | .ful sz es :: vs, H => (.own H.length 0 sz es :: (mintL vs (H ++ [.tok 0])).1, (mintL vs (H ++ [.tok 0])).2)
  | v :: vs, H => (v :: (mintL vs H).1, (mintL vs H).2)

/-- A loop: its round told the temporaries that live and the heap. -/
abbrev LoopO (R : Type) := (List AV → Hp → (Ex → List AV → St → Option R) → Option R) → List AV → Hp → (Ex → St → Option R) → Option R

def execK {R : Type} (E : Env) (c : Oracle) (lp : LoopO R) (q : R → R → Bool) (f depth : Nat) : Code → (bases : List Nat) → (cur : Nat) → St → (Ex → St → Option R) → Option R
  | .skip, _, _, st, k => k .nrm st
  | .region id ops dr, bases, _, st, k =>
    cond dr (regK E c f bases (some ⟨st.hp.length, (E.flag f id).1, ptrs st.fr (E.flag f id).2⟩) ops ops.toList 0 0 ⟨st.fr, st.hp ++ List.replicate (newsOf ops.toList) .dead⟩ fun st => k .nrm st)
      (regK E c f bases none ops ops.toList 0 0 st fun st => k .nrm st)
  | .seq a b, bases, cur, st, k => execK E c lp q f depth a bases cur st fun e st => match e with
      | .nrm => execK E c lp q f depth b bases cur st k
      | e => k e st
  | .cond x a b, bases, cur, st, k => match evalO E st.fr x with
      | .pv (.bool t) => cond t (execK E c lp q f depth a bases cur st k) (execK E c lp q f depth b bases cur st k)
      | .ubool => (execK E c lp q f depth a bases cur st k).bind fun r => (execK E c lp q f depth b bases cur st k).bind fun s => cond (q r s) (some r) none
      | _ => none
  | .block id a, bases, _, st, k => execK E c lp q f depth a bases id st fun e st => match e with
      | .ext j => cond (Nat.beq j id) (k .nrm st) (k (.ext j) st)
      | e => k e st
  | .loop a, bases, cur, st, k =>
      cond (AV.unders (mintL (liveV st.fr (E.live f cur)) st.hp).2.length (mintL (liveV st.fr (E.live f cur)) st.hp).1)
        (lp (fun vs H k' => execK E c lp q f depth a ((mintL (liveV st.fr (E.live f cur)) st.hp).2.length :: bases) cur ⟨frOf depth (E.live f cur) vs, H⟩ fun e st' =>
            match e with
            | .nrm => cond (AV.unders (mintL (liveV st.fr (E.live f cur)) st.hp).2.length (liveV st'.fr (E.live f cur)))
                (k' .nrm (liveV st'.fr (E.live f cur)) ⟨st'.fr, st'.hp.take (mintL (liveV st.fr (E.live f cur)) st.hp).2.length⟩) none
            | e => k' e [] st') (mintL (liveV st.fr (E.live f cur)) st.hp).1 (mintL (liveV st.fr (E.live f cur)) st.hp).2 k)
        none
  | .exit id, _, _, st, k => k (.ext id) st
  | .scope a, bases, cur, st, k => execK E c lp q f depth a bases cur st k
  | .label _, _, _, st, k => k .nrm st
  | .ret, _, _, st, k => k .ret st
  | _, _, _, _, _ => none

/-- So many rounds at most. -/
def loopN {R : Type} : Nat → LoopO R
  | 0, _, _, _, _ => none
  | n + 1, body, vs, H, k => body vs H fun e vs st => match e with
      | .nrm => loopN n body vs st.hp k
      | e => k e st

/-! ### Functions -/

def rvO (E : Env) (st : St) : ResultVar → Option AV
  | .tmp t => some (st.fr.get t)
  | .cell a t => loadO E t st.hp (st.fr.get a)

def rvsO (E : Env) (st : St) : List ResultVar → Option (List AV)
  | [] => some []
  | r :: rs => match rvO E st r, rvsO E st rs with
    | some v, some vs => some (v :: vs)
    | _, _ => none

/-- A result: a slice that may be appended to is handed on as one that is changed no more. -/
def degr : AV → AV
  | .ful sz es => .pv (.lst sz es)
  | .own _ _ sz es => .pv (.lst sz es)
  | v => v

def oneO (vs : List AV) : AV := match vs with | [v] => v | vs => .tup vs

/-- As pure data, of a type, when a function ends: blocks that it has made are changed no more. -/
def frzO (E : Env) (H : Hp) (t : Nat) (v : AV) : Option PV :=
  match v with
  | .map b => match H[b]? with
    | some (.map ks vs) => (allPV vs).map fun vs => .map ks vs
    | _ => none
  | v => (toPVt E H t v).map (·.1)

def frzsO (E : Env) (H : Hp) : List Nat → List AV → Option (List PV)
  | [], [] => some []
  | t :: ts, v :: vs => match frzO E H t v, frzsO E H ts vs with
    | some p, some ps => some (p :: ps)
    | _, _ => none
  | _, _ => none

def oneP (vs : List PV) : PV := match vs with | [v] => v | vs => .tup vs

def frameOf (d : Nat) (as : List AV) : Fr := frOf d (List.range as.length) as

/-- How deep the tree of a frame is. -/
def depthOf (n : Nat) : Nat := Nat.log2 n + 1

def bodyK {R : Type} (E : Env) (c : Oracle) (lp : LoopO R) (q : R → R → Bool) (f : Nat) (fn : Func) (bases : List Nat) (as : List AV) (H : Hp) (fin : List AV → Hp → Option R) : Option R :=
  match fn.body with
  | none => none
  | some code => execK E c lp q f (depthOf fn.ntmps) code bases 0 ⟨frameOf (depthOf fn.ntmps) as, H⟩ fun e st =>
      match e with
      | .nrm | .ret => (rvsO E st fn.results.toList).bind fun vs => fin vs st.hp
      | _ => none

mutual
/-- Are they the same data? -/
def PV.same : PV → PV → Bool
  | .int k n, .int k' m => decide (k = k') && decide (n = m)
  | .bool a, .bool b => a == b
  | .str s, .str t => s == t
  | .agg cs, .agg ds => PV.sames cs ds
  | .lst z es, .lst y fs => Nat.beq z y && PV.sames es fs
  | .tup cs, .tup ds => PV.sames cs ds
  | .nilp, .nilp => true
  | .nilf, .nilf => true
  | .fn f, .fn g => Nat.beq f g
  | .nili, .nili => true
  | .iface t x, .iface u y => Nat.beq t u && x.same y
  | .nilm, .nilm => true
  | .map ks vs, .map ls ws => PV.sames ks ls && PV.sames vs ws
  | _, _ => false
def PV.sames : List PV → List PV → Bool
  | [], [] => true
  | x :: xs, y :: ys => x.same y && PV.sames xs ys
  | _, _ => false
end

def pureK (E : Env) (c : Oracle) (lp : LoopO PV) (f : Nat) (ps : List PV) : Option PV :=
  match E.fn f with
  | none => none
  | some fn => bodyK E c lp PV.same f fn [] (ps.map .pv) [] fun vs H => (frzsO E H fn.resultTypes.toList vs).map oneP

def shutK (E : Env) (c : Oracle) (lp : LoopO (AV × Hp)) (bases : List Nat) (f : Nat) (as : List AV) (H : Hp) : Option (AV × Hp) :=
  match E.fn f with
  | none => none
  | some fn => match E.cls f with
    | .shut => bodyK E c lp (fun _ _ => false) f fn (H.length :: bases) as H fun vs H' => cond (AV.unders H.length (vs.map degr)) (some (oneO (vs.map degr), H'.take H.length)) none
    | _ => bodyK E c lp (fun _ _ => false) f fn bases as H fun vs H' => some (oneO (vs.map degr), H')

/-- The calls, so many deep at most. -/
def callN (E : Env) : Nat → Oracle
  | 0 => ⟨fun _ _ => none, fun _ _ _ _ => none⟩
  | n + 1 => ⟨pureK E (callN E n) (loopN n), shutK E (callN E n) (loopN n)⟩

end Go.Pu
