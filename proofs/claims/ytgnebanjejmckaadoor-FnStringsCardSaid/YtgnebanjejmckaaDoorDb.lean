/- The code without its places, and what it does to data: 'SC.wp'. -/
import Derived.Test.YtgnebanjejmckaaDoorDa
import Derived.Laws.StructEq
namespace Dl
open Go

/-- An operation: slot written, operation, and the slot and value that it waits for. -/
structure SO where
  dst : Option Nat
  op : Op
  guard : Option (Nat × Bool) := none
  deriving Inhabited

/-- Orders, parted where none serves for all. -/
inductive RT where
  | done
  | bad
  | op (o : SO) (t : RT)
  | br (a b : RT)
  deriving Inhabited
def RT.ops : RT → List SO
  | .done => []
  | .bad => []
  | .op o t => o :: t.ops
  | .br a b => a.ops ++ b.ops

inductive SC where
  | skip
  | reg (ops : List SO)
  | regd (ops : List (SO × List Nat))
  | regp (ops : List SO)
  | regt (t : RT)
  | seq (a b : SC)
  | cond (c : Operand) (a b : SC)
  | block (id : Nat) (b : SC)
  | loop (b : SC)
  | exit (id : Nat)
  | ret
  | bad
  deriving Inhabited

def stripOp (ops : Array Oper) (o : Oper) : SO :=
  { dst := o.dst, op := o.op,
    guard := match o.guard with
      | none => none
      | some (j, b) => some (((ops[j]?).bind (·.dst)).getD 1000000, b) }

def stripD (ops : Array Oper) (o : Oper) : SO × List Nat := (stripOp ops o, (o.after.toList.filter (Region.binds .any)).map (·.on))

def strip : Code → SC
  | .skip => .skip
  | .region _ ops false => .reg (ops.toList.map (stripOp ops))
  | .region _ ops true => .regd (ops.toList.map (stripD ops))
  | .seq a b => .seq (strip a) (strip b)
  | .cond c a b => .cond c (strip a) (strip b)
  | .block i b => .block i (strip b)
  | .loop b => .loop (strip b)
  | .exit i => .exit i
  | .ret => .ret
  | _ => .bad

abbrev Fr := Nat → D
abbrev Heap := List (List D)
/-- A box's cells. -/
def hget (H : Heap) (b : Nat) : List D := H.getD b []
def Fr.set (fr : Fr) (t : Nat) (d : D) : Fr := fun u => if u = t then d else fr u
def Fr.put (fr : Fr) (o : Option Nat) (d : D) : Fr :=
  match o with
  | some t => fr.set t d
  | none => fr
theorem Fr.set_app (fr : Fr) (t : Nat) (d : D) (u : Nat) : fr.set t d u = if u = t then d else fr u := rfl
theorem Fr.put_some (fr : Fr) (t : Nat) (d : D) : fr.put (some t) d = fr.set t d := rfl
theorem Fr.put_none (fr : Fr) (d : D) : fr.put none d = fr := rfl

/-- A constant as a datum. -/
def ofVal : Value → D
  | .int k n => .int k n
  | .bool b => .bool b
  | .string s => .str s.data.toList
  | .slice none 0 0 => .lst .exact []
  | .pointer none => .nilp
  | .nilIface => .nili
  | .nilFunc => .nilf
  | .agg cs => .agg (cs.toList.map fun v => match v with
      | .int k n => .int k n
      | .bool b => .bool b
      | .string s => .str s.data.toList
      | .slice none 0 0 => .lst .no []
      | _ => .any)
  | _ => .any

def ev (fr : Fr) : Operand → D
  | .tmp t => fr t
  | .const v => ofVal v
  | .global _ => .any
  | .func f => .fn f []

/-- A list as an argument or as a cell: its flag is gone. -/
def D.pl : D → D
  | .lst _ xs => .lst .no xs
  | d => d

/-- An element of a list. -/
def D.el : D → D
  | .agg cs => .agg (cs.map D.pl)
  | d => d.pl

def optK (o : Option D) (k : D → Prop) : Prop :=
  match o with
  | some d => k d
  | none => False
theorem optK_some (d : D) (k : D → Prop) : optK (some d) k = k d := rfl
theorem optK_none (k : D → Prop) : optK none k = False := rfl
theorem optK_ite (c : Prop) [Decidable c] (a b : Option D) (k : D → Prop) : optK (if c then a else b) k = if c then optK a k else optK b k := by split <;> rfl

def dInt (op : BinOp) (k : IntKind) (a b : Int) : Option D :=
  match op with
  | .add => some (.int k (k.wrap (a + b)))
  | .sub => some (.int k (k.wrap (a - b)))
  | .mul => some (.int k (k.wrap (a * b)))
  | .quo => if b = 0 then none else some (.int k (k.wrap (a.tdiv b)))
  | .rem => if b = 0 then none else some (.int k (a.tmod b))
  | .and => some (.int k (k.wrap (BitVec.ofInt k.bits a &&& BitVec.ofInt k.bits b).toNat))
  | .or => some (.int k (k.wrap (BitVec.ofInt k.bits a ||| BitVec.ofInt k.bits b).toNat))
  | .xor => some (.int k (k.wrap (BitVec.ofInt k.bits a ^^^ BitVec.ofInt k.bits b).toNat))
  | .eql => some (.bool (decide (a = b)))
  | .neq => some (.bool (!decide (a = b)))
  | .lss => some (.bool (decide (a < b)))
  | .leq => some (.bool (decide (a ≤ b)))
  | .gtr => some (.bool (decide (b < a)))
  | .geq => some (.bool (decide (b ≤ a)))
  | _ => none

def dStr (op : BinOp) (a b : List UInt8) : Option D :=
  match op with
  | .add => if a.length + b.length ≤ 4611686018427387904 then some (.str (a ++ b)) else none
  | .eql => some (.bool (decide (a = b)))
  | .neq => some (.bool (!decide (a = b)))
  | .lss => some (.bool (Op.bytesLess a b))
  | _ => none

def dBin (op : BinOp) (x y : D) : Option D :=
  match x, y with
  | .int k a, .int k' b =>
    match op with
    | .shl => if b < 0 then none else some (.int k (k.wrap (a * 2 ^ min b.toNat k.bits)))
    | .shr => if b < 0 then none else some (.int k (a.fdiv (2 ^ min b.toNat k.bits)))
    | op => if k = k' then dInt op k a b else none
  | .str a, .str b => dStr op a b
  | _, _ => none

def dUn (op : UnOp) (x : D) : Option D :=
  match op, x with
  | .not, .bool b => some (.bool (!b))
  | .neg, .int k n => some (.int k (k.wrap (0 - n)))
  | _, _ => none

/-- The type's kind, as far as it is asked for. -/
def slE (P : Program) (t : TypeId) : Option TypeId :=
  match P.underlying t with
  | some (.slice e) => some e
  | _ => none
def arE (P : Program) (t : TypeId) : Option (Nat × TypeId) :=
  match P.underlying t with
  | some (.array n e) => some (n, e)
  | _ => none
def isStr (P : Program) (t : TypeId) : Bool :=
  match P.underlying t with
  | some .string => true
  | _ => false
def isBool (P : Program) (t : TypeId) : Bool :=
  match P.underlying t with
  | some .bool => true
  | _ => false
def isIface (P : Program) (t : TypeId) : Bool :=
  match P.underlying t with
  | some (.interface _) => true
  | _ => false
def kindOf (P : Program) (t : TypeId) : Option IntKind :=
  match P.underlying t with
  | some (.int k) => some k
  | _ => none
def fieldOf (P : Program) (t : TypeId) (f : Nat) : Option (Nat × TypeId) :=
  match P.underlying t with
  | some (.struct fs) => (fs[f]?).map fun x => (x.offset, x.type)
  | _ => none
/-- Is it a struct or an array? -/
def aggB (P : Program) (t : TypeId) : Bool :=
  match P.underlying t with
  | some (.struct _) => true
  | some (.array _ _) => true
  | some _ => false
  | none => false
def known (P : Program) (t : TypeId) : Bool := (P.underlying t).isSome && (P.info? t).isSome

/-- The fields of a struct: offset and type; none for the blank one's sake. -/
def fieldsOf (P : Program) (t : TypeId) : Option (List (Nat × TypeId)) :=
  match P.underlying t with
  | some (.struct fs) => if fs.toList.all (fun f => f.name != "_") && !P.stoodInHeld t && !P.eqGuardType P.depth t then some (fs.toList.map fun f => (f.offset, f.type)) else none
  | _ => none
/-- The elements' type of an array that can be compared. -/
def arrEq (P : Program) (t : TypeId) : Option (Nat × TypeId) :=
  match P.underlying t with
  | some (.array n e) => if !P.eqGuardType P.depth t then some (n, e) else none
  | _ => none

/-- A cell of a scalar type held against another one. -/
def eqScal (P : Program) (t : TypeId) (x y : D) : Option Bool :=
  match x, y with
  | .bool a, .bool b => if isBool P t then some (decide (a = b)) else none
  | .int k a, .int k' b => if k = k' ∧ (kindOf P t).isSome then some (decide (a = b)) else none
  | .str a, .str b => if isStr P t then some (decide (a = b)) else none
  | _, _ => none

/-- Elements of an array, or fields of a struct, each of one scalar cell or an array of such. -/
def eqRow (P : Program) (e : TypeId) : List D → List D → Option Bool
  | [], [] => some true
  | x :: xs, y :: ys => (eqScal P e x y).bind fun b => if b then eqRow P e xs ys else some false
  | _, _ => none
def eqPart (P : Program) (t : TypeId) (xs ys : List D) (off : Nat) : Option Bool :=
  match arrEq P t with
  | some (n, e) => if P.cellsOf e = 1 ∧ P.cellsOf t = n ∧ off + n ≤ xs.length ∧ off + n ≤ ys.length then eqRow P e ((xs.drop off).take n) ((ys.drop off).take n) else none
  | none => if off < xs.length ∧ off < ys.length ∧ aggB P t = false then eqScal P t (xs.getD off .any) (ys.getD off .any) else none
def eqFields (P : Program) (xs ys : List D) : List (Nat × TypeId) → Option Bool
  | [] => some true
  | (off, t) :: fs => (eqPart P t xs ys off).bind fun b => if b then eqFields P xs ys fs else some false

def eqD (P : Program) (c : Bool) (t : TypeId) (x y : D) : Option Bool :=
  match x, y with
  | .agg xs, .agg ys => match fieldsOf P t with
    | some fs => eqFields P xs ys fs
    | none => match arrEq P t with
      | some (n, _) => if xs.length = n ∧ ys.length = n then eqPart P t xs ys 0 else none
      | none => none
  | .bool a, .bool b => if isBool P t then some (decide (a = b)) else none
  | .ifc, .nili => if isIface P t then some false else none
  | .nili, .nili => if isIface P t ∧ c = true then some true else none
  | _, _ => none

def dBinT (P : Program) (c : Bool) (op : BinOp) (t : TypeId) (x y : D) : Option D :=
  match x, y with
  | .int _ _, _ => dBin op x y
  | .str _, _ => dBin op x y
  | _, _ =>
    match op with
    | .eql => (eqD P c t x y).map .bool
    | .neq => (eqD P c t x y).map fun b => .bool (!b)
    | _ => none

def byteD : D → Option UInt8
  | .int .u8 n => some (UInt8.ofNat n.toNat)
  | _ => none

def dConv (P : Program) (src dst : TypeId) (x : D) : Option D :=
  match x with
  | .int _ n => match P.underlying src, kindOf P dst with
    | some (.int _), some k => some (.int k (k.wrap n))
    | _, _ => none
  | .str s => if isStr P src && isStr P dst then some (.str s) else none
  | .lst _ xs => match slE P src with
    | some e => if kindOf P e = some .u8 ∧ isStr P dst then (xs.mapM byteD).map .str else none
    | none => none
  | _ => none

/-- A part of a struct or an array: cells from 'off' on, of type 't'. -/
def dPart (P : Program) (t : TypeId) (cs : List D) (off : Nat) : Option D :=
  if aggB P t then
    if off + P.cellsOf t ≤ cs.length then some (.agg ((cs.drop off).take (P.cellsOf t))) else none
  else if off < cs.length ∧ known P t then some (cs.getD off .any).pl else none

def dField (P : Program) (t : TypeId) (x : D) (f : Nat) : Option D :=
  match x, fieldOf P t f with
  | .agg cs, some (off, ft) => dPart P ft cs off
  | _, _ => none

def dIndex (P : Program) (t : TypeId) (x i : D) : Option D :=
  match x, i with
  | .agg cs, .int _ n => match arE P t with
    | some (len, e) => if 0 ≤ n ∧ n < len then dPart P e cs (n.toNat * P.cellsOf e) else none
    | none => none
  | .str s, .int _ n => if isStr P t ∧ 0 ≤ n ∧ n < s.length then some (.int .u8 ((s.getD n.toNat 0).toNat : Nat)) else none
  | _, _ => none

def dExtract (x : D) (i : Nat) : Option D :=
  match x with
  | .tup ds => if i < ds.length then some (ds.getD i .any).pl else none
  | _ => none

def dIndexAddr (P : Program) (t : TypeId) (x i : D) : Option D :=
  match x, i with
  | .lst _ xs, .int _ n => match slE P t with
    | some e => if 0 ≤ n ∧ n < xs.length ∧ (xs.getD n.toNat .any).cells.length = P.cellsOf e ∧ known P e then some (.rptr (xs.getD n.toNat .any).cells) else none
    | none => none
  | .ref b off len _ e', .int _ n => match slE P t with
    | some e => if 0 ≤ n ∧ n < len ∧ e' = P.cellsOf e ∧ known P e then some (.ptr b (off + n.toNat * P.cellsOf e)) else none
    | none => none
  | .ptr b off, .int _ n => match arE P t with
    | some (len, e) => if 0 ≤ n ∧ n < len ∧ known P e then some (.ptr b (off + n.toNat * P.cellsOf e)) else none
    | none => none
  | .rptr cs, .int _ n => match arE P t with
    | some (len, e) => if 0 ≤ n ∧ n < len ∧ n.toNat * P.cellsOf e ≤ cs.length ∧ known P e then some (.rptr (cs.drop (n.toNat * P.cellsOf e))) else none
    | none => none
  | _, _ => none

def dFieldAddr (P : Program) (t : TypeId) (x : D) (f : Nat) : Option D :=
  match fieldOf P t f with
  | some (off, ft) => if 0 < P.cellsOf ft then
      match x with
      | .ptr b o => some (.ptr b (o + off))
      | .rptr cs => if off ≤ cs.length then some (.rptr (cs.drop off)) else none
      | _ => none
    else none
  | none => none

/-- Cells from 'off' on, read at type 't'. -/
def dCells (P : Program) (t : TypeId) (cs : List D) : Option D :=
  if aggB P t then
    if P.cellsOf t ≤ cs.length then some (.agg (cs.take (P.cellsOf t))) else none
  else if 0 < cs.length ∧ known P t then some (cs.getD 0 .any).pl else none

def dLoad (P : Program) (H : Heap) (t : TypeId) (x : D) : Option D :=
  match x with
  | .rptr cs => dCells P t cs
  | .ptr b off => if b < H.length ∧ off ≤ (hget H b).length then dCells P t ((hget H b).drop off) else none
  | _ => none

def bound (x : Option D) (d : Int) : Option Int :=
  match x with
  | none => some d
  | some (.int _ n) => some n
  | some _ => none

def dSlice (P : Program) (t : TypeId) (x : D) (lo hi mx : Option D) : Option D :=
  match x with
  | .str s => match bound lo 0, bound hi s.length, mx with
    | some l, some h, none => if isStr P t ∧ 0 ≤ l ∧ l ≤ h ∧ h ≤ s.length then some (.str ((s.drop l.toNat).take (h.toNat - l.toNat))) else none
    | _, _, _ => none
  | .lst _ xs => match bound lo 0, bound hi xs.length, mx, slE P t with
    | some l, some h, none, some e => if 0 ≤ l ∧ l ≤ h ∧ h ≤ xs.length ∧ (∀ x ∈ xs, x.cells.length = P.cellsOf e) ∧ known P e then some (.lst .no ((xs.drop l.toNat).take (h.toNat - l.toNat))) else none
    | some l, some h, some (.int _ m), some e => if hi.isSome = true ∧ 0 ≤ l ∧ l ≤ h ∧ m = h ∧ h ≤ xs.length ∧ (∀ x ∈ xs, x.cells.length = P.cellsOf e) ∧ known P e then some (.lst .exact ((xs.drop l.toNat).take (h.toNat - l.toNat))) else none
    | _, _, _, _ => none
  | .ptr b off => match bound lo 0, arE P t, mx with
    | some l, some (n, e), none => match bound hi n with
      | some h => if 0 ≤ l ∧ l ≤ h ∧ h ≤ n ∧ l < n ∧ known P e then some (.ref b (off + l.toNat * P.cellsOf e) (h.toNat - l.toNat) (n - l.toNat) (P.cellsOf e)) else none
      | none => none
    | _, _, _ => none
  | .ref b off len cap e' => match bound lo 0, bound hi len, mx, slE P t with
    | some l, some h, none, some e => if 0 ≤ l ∧ l ≤ h ∧ h ≤ cap ∧ e' = P.cellsOf e ∧ known P e then some (.ref b (if cap = l.toNat then off else off + l.toNat * e') (h.toNat - l.toNat) (cap - l.toNat) e') else none
    | _, _, _, _ => none
  | _ => none

def dLen (P : Program) (t : TypeId) (x : D) : Option D :=
  match x with
  | .str s => if isStr P t then some (.int .i64 (s.length : Nat)) else none
  | .lst _ xs => if (slE P t).isSome then some (.int .i64 (xs.length : Nat)) else none
  | .ref _ _ len _ _ => if (slE P t).isSome then some (.int .i64 (len : Nat)) else none
  | _ => none

/-- The cells of a struct or an array that is built: places written one after the other. -/
def fillD (place : Nat → Option (Nat × Nat)) (cells : List D) : List (Nat × D) → Option (List D)
  | [] => some cells
  | (i, d) :: rest =>
    match place i with
    | none => none
    | some (off, size) =>
      if d.cells.length = size ∧ off + size ≤ cells.length ∧ d.cells.all D.sc then
        fillD place (cells.take off ++ d.cells.map D.pl ++ cells.drop (off + size)) rest
      else none

def zeroD (P : Program) (t : TypeId) : Option (List D) :=
  match P.info? t with
  | some i => i.zero.map fun v => (ofVal v).cells
  | none => none

def fieldsKnown (P : Program) (t : TypeId) : Bool :=
  match P.underlying t with
  | some (.struct fs) => fs.toList.all fun f => (P.info? f.type).isSome
  | _ => false

/-- The type's zero value has as many cells as the type. -/
def zeroOk (P : Program) (t : TypeId) : Bool :=
  match zeroD P t with
  | some z => z.length == P.cellsOf t
  | none => false

def dBuild (P : Program) (t : TypeId) (parts : List (Nat × D)) : Option D :=
  match zeroD P t with
  | some z =>
    match arE P t with
    | some (_, e) => if known P e then (fillD (fun i => some (i * P.cellsOf e, P.cellsOf e)) z parts).map .agg else none
    | none => if fieldsKnown P t then (fillD (fun f => (fieldOf P t f).map fun x => (x.1, P.cellsOf x.2)) z parts).map .agg else none
  | none => none

def elD (P : Program) (e : TypeId) (z : List D) : D := if aggB P e then .agg z else z.getD 0 .any

/-- Choices, each of them sound: 'trs': slots whose move takes the ownership along; 'cps': slots whose assignment does not; 'refs': slices that are made as boxes. -/
structure Hints where
  trs : List Nat := []
  cps : List Nat := []
  refs : List Nat := []
  tree : Bool := false

def setCells (cs : List D) (off : Nat) (ds : List D) : List D := cs.take off ++ ds ++ cs.drop (off + ds.length)

abbrev Callee := FuncId → List D → Heap → (D → Heap → Prop) → Prop

/-- Elements of type 'e' out of cells. -/
def chop (P : Program) (e : TypeId) (n : Nat) (cs : List D) : List D :=
  (List.range n).map fun i => if aggB P e then .agg ((cs.drop (i * P.cellsOf e)).take (P.cellsOf e)) else cs.getD i .any
/-- The elements of a slice. -/
def elsOf (P : Program) (H : Heap) (e : TypeId) : D → Option (List D)
  | .lst _ ys => some ys
  | .ref b off len _ e' => if e' = P.cellsOf e ∧ b < H.length ∧ off + len * P.cellsOf e ≤ (hget H b).length ∧ (aggB P e = true ∨ P.cellsOf e = 1) ∧ (∀ d ∈ ((hget H b).drop off).take (len * P.cellsOf e), d.np1 = true) then
      some (chop P e len ((hget H b).drop off)) else none
  | _ => none
/-- As many zero values as told, as cells. -/
def zeros (P : Program) (e : TypeId) (n : Nat) : List D :=
  match zeroD P e with
  | some z => (List.replicate n z).flatten
  | none => []
def zeroSc (P : Program) (e : TypeId) : Bool :=
  match zeroD P e with
  | some z => z.all D.sc
  | none => false
def dstIn (o : Option Nat) (l : List Nat) : Bool :=
  match o with
  | some d => l.contains d
  | none => false

/-- An append whose result is a box. -/
def appR (P : Program) (e : TypeId) (x : D) (ys : List D) (H : Heap) (K : D → Heap → Prop) : Prop :=
  match x with
  | .lst .exact xs => ((∀ x ∈ xs ++ ys, x.cells.length = P.cellsOf e) ∧ (∀ x ∈ ys, ∀ d ∈ x.cells, d.sc = true ∧ d.np1 = true) ∧ xs.length + ys.length ≤ 1073741824) ∧
      (ys = [] → K (.lst .exact xs) H) ∧
      (ys ≠ [] → ∀ cap, xs.length + ys.length ≤ cap → cap ≤ 9223372036854775807 → K (.ref H.length 0 (xs.length + ys.length) cap (P.cellsOf e)) (H ++ [(xs ++ ys).flatMap D.cells ++ zeros P e (cap - (xs.length + ys.length))]))
  | .ref b off len cap e' => (e' = P.cellsOf e ∧ b < H.length ∧ off + cap * P.cellsOf e ≤ (hget H b).length ∧ len ≤ cap ∧ len + ys.length ≤ 1073741824 ∧ (∀ x ∈ ys, x.cells.length = P.cellsOf e) ∧ (∀ x ∈ ys, ∀ d ∈ x.cells, d.sc = true ∧ d.np1 = true)) ∧
      (len + ys.length ≤ cap → K (.ref b off (len + ys.length) cap e') (H.set b (setCells (hget H b) (off + len * P.cellsOf e) (ys.flatMap D.cells)))) ∧
      (cap < len + ys.length → ∀ cap', len + ys.length ≤ cap' → cap' ≤ 9223372036854775807 →
        K (.ref H.length 0 (len + ys.length) cap' e') (H ++ [((hget H b).drop off).take (len * P.cellsOf e) ++ ys.flatMap D.cells ++ zeros P e (cap' - (len + ys.length))]))
  | _ => False

/-- A conversion of a text to bytes that are written, or back. -/
def cvR (P : Program) (s t : TypeId) (x : D) (H : Heap) (K : D → Heap → Prop) : Prop :=
  match x with
  | .str l => (isStr P s = true ∧ ((slE P t).bind fun e => kindOf P e) = some .u8 ∧ l.length ≤ 1073741824) ∧ ∀ cap, l.length ≤ cap → cap ≤ 9223372036854775807 →
      K (.ref H.length 0 l.length cap 1) (H ++ [(l.map fun c => .int .u8 (c.toNat : Nat)) ++ List.replicate (cap - l.length) (.int .u8 0)])
  | .ref b off len _ e' => (e' = 1 ∧ ((slE P s).bind fun e => kindOf P e) = some .u8 ∧ isStr P t = true ∧ b < H.length ∧ off + len ≤ (hget H b).length) ∧
      optK (((((hget H b).drop off).take len).mapM byteD).map .str) fun d => K d H
  | _ => False

def dropOp (fr : Fr) : Operand → Fr
  | .tmp s => fr.set s (fr s).dis
  | _ => fr

def opWp (P : Program) (hn : Hints) (C : Callee) (o : SO) (fr : Fr) (H : Heap) (K : Fr → Heap → Prop) : Prop :=
  match o.op with
  | .move (.tmp s) =>
    match o.dst with
    | some d => if d ∈ hn.trs ∧ d ≠ s then K ((fr.set s (fr s).dis).set d (fr s)) H else K (fr.set d (fr s).dis) H
    | none => K fr H
  | .move x => K (fr.put o.dst (ev fr x)) H
  | .assign (.tmp s) =>
    match o.dst with
    | some d => if d ∈ hn.cps then K (fr.set d (fr s).dis) H else match fr s with
      | .lst (.tip e) xs => if d ≠ s then K ((fr.set s (.lst .no xs)).set d (.lst (.tip e) xs)) H else False
      | v => K (fr.set d v) H
    | none => K fr H
  | .assign x => K (fr.put o.dst (ev fr x)) H
  | .pick c a b => match ev fr c with
    | .bool true => K (fr.put o.dst (ev fr a).dis) H
    | .bool false => K (fr.put o.dst (ev fr b).dis) H
    | _ => False
  | .binOp op t x y _ => optK (dBinT P (Region.isConst y) op t (ev fr x) (ev fr y)) fun d => K (fr.put o.dst d) H
  | .unOp op _ x => optK (dUn op (ev fr x)) fun d => K (fr.put o.dst d) H
  | .convert s t x => if dstIn o.dst hn.refs then cvR P s t (ev fr x) H fun d H' => K (fr.put o.dst d) H' else optK (dConv P s t (ev fr x)) fun d => K (fr.put o.dst d) H
  | .field t x f => optK (dField P t (ev fr x) f) fun d => K (fr.put o.dst d) H
  | .index t x i => optK (dIndex P t (ev fr x) (ev fr i)) fun d => K (fr.put o.dst d) H
  | .extract x i => optK (dExtract (ev fr x) i) fun d => K (fr.put o.dst d) H
  | .indexAddr t x i => optK (dIndexAddr P t (ev fr x) (ev fr i)) fun d => K (fr.put o.dst d) H
  | .fieldAddr t x f => optK (dFieldAddr P t (ev fr x) f) fun d => K (fr.put o.dst d) H
  | .load t x => optK (dLoad P H t (ev fr x)) fun d => K (fr.put o.dst d) H
  | .nilCheck x => match ev fr x with
    | .ptr b off => K (fr.put o.dst (.ptr b off)) H
    | .rptr cs => K (fr.put o.dst (.rptr cs)) H
    | .fn f cs => K (fr.put o.dst (.fn f cs)) H
    | _ => False
  | .slice t x lo hi mx => optK (dSlice P t (ev fr x) (lo.map (ev fr)) (hi.map (ev fr)) (mx.map (ev fr))) fun d => K (fr.put o.dst d) H
  | .build t parts => optK (dBuild P t (parts.toList.map fun (i, x) => (i, ev fr x))) fun d => K (fr.put o.dst d) H
  | .makeFunc (.func f) first caps => if first = #[] ∧ (∀ d ∈ caps.toList.map (ev fr), D.sc d = true) then K (fr.put o.dst (.fn f (caps.toList.map (ev fr)))) H else False
  | .box t x => if P.cellsOf t = (ev fr x).cells.length ∧ (∀ d ∈ (ev fr x).cells, d.sc = true ∧ d.bx = true) then K (fr.put o.dst (.ptr H.length 0)) (H ++ [(ev fr x).cells.map D.pl]) else False
  | .alloc t => match zeroD P t with
    | some z => K (fr.put o.dst (.ptr H.length 0)) (H ++ [z])
    | none => False
  | .store t a x => match ev fr a with
    | .ptr b off => if b < H.length ∧ (ev fr x).cells.length = P.cellsOf t ∧ off + P.cellsOf t ≤ (hget H b).length ∧ (∀ d ∈ (ev fr x).cells, d.sc = true ∧ d.bx = true) ∧ known P t then
        K (fr.put o.dst .any) (H.set b (setCells (hget H b) off ((ev fr x).cells.map D.pl))) else False
    | _ => False
  | .call c => match c.callee with
    | .value f => match ev fr f with
      | .fn g cs => C g (c.args.toList.map (fun x => (ev fr x).pl) ++ cs) H fun r H' => K (fr.put o.dst r) H'
      | _ => False
    | .builtin .len => match c.args.toList, c.argTypes.toList with
      | [x], [t] => optK (dLen P t (ev fr x)) fun d => K (fr.put o.dst d) H
      | _, _ => False
    | .builtin .min => match c.args.toList with
      | [x, y] => match ev fr x, ev fr y with
        | .int k a, .int k' b => if k = k' then K (fr.put o.dst (.int k (if b < a then b else a))) H else False
        | _, _ => False
      | _ => False
    | .builtin .max => match c.args.toList with
      | [x, y] => match ev fr x, ev fr y with
        | .int k a, .int k' b => if k = k' then K (fr.put o.dst (.int k (if b > a then b else a))) H else False
        | _, _ => False
      | _ => False
    | .builtin .append => match c.args.toList, c.argTypes.toList with
      | [x, y], [t, t'] => match slE P t with
        | some e => match elsOf P H e (ev fr y) with
          | some ys => if dstIn o.dst hn.refs then
              (t' = t ∧ 0 < P.cellsOf e ∧ P.bytesOf e ≤ 4096 ∧ zeroOk P e = true) ∧ appR P e (ev fr x) ys H fun d H' => K (fr.put o.dst d) H'
            else match ev fr x with
            | .lst o' xs =>
              if t' = t ∧ (o' = .exact ∨ o' = .tip e) ∧ (∀ x ∈ xs ++ ys, x.cells.length = P.cellsOf e) ∧ (∀ x ∈ ys, ∀ d ∈ x.cells, d.sc = true ∧ d.np1 = true) ∧ 0 < P.cellsOf e ∧ P.bytesOf e ≤ 4096 ∧ xs.length + ys.length ≤ 1073741824 ∧ zeroOk P e = true then
                K ((dropOp fr x).put o.dst (.lst (.tip e) (xs ++ ys))) H
              else False
            | _ => False
          | none => False
        | none => False
      | _, _ => False
    | .builtin .clear => match c.args.toList, c.argTypes.toList with
      | [x], [t] => match ev fr x, slE P t with
        | .lst _ [], some _ => K (fr.put o.dst (.tup [])) H
        | .ref b off len _ e', some e => if e' = P.cellsOf e ∧ b < H.length ∧ off + len * P.cellsOf e ≤ (hget H b).length ∧ (zeroOk P e = true ∧ zeroSc P e = true ∧ 0 < P.cellsOf e) then
            K (fr.put o.dst (.tup [])) (H.set b (setCells (hget H b) off (zeros P e len))) else False
        | _, _ => False
      | _, _ => False
    | _ => False
  | .buildSlice t len parts => match slE P t with
    | some e =>
      if parts.toList.map (·.1) = List.range len ∧ (∀ x ∈ parts.toList.map (fun (p : Nat × Operand) => ev fr p.2), x.cells.length = P.cellsOf e ∧ ∀ d ∈ x.cells, d.sc = true ∧ d.np1 = true) ∧ 0 < P.cellsOf e ∧ len * P.cellsOf e ≤ 16777216 ∧ zeroOk P e = true then
        match o.dst with
        | some d =>
          if d ∈ hn.refs then K (fr.set d (.ref H.length 0 len len (P.cellsOf e))) (H ++ [(parts.toList.map fun (p : Nat × Operand) => ev fr p.2).flatMap fun d => d.cells.map D.pl])
          else K (fr.set d (.lst .exact (parts.toList.map fun (p : Nat × Operand) => (ev fr p.2).el))) H
        | none => False
      else False
    | none => False
  | .makeSlice t l c => match o.dst with
    | some d => match slE P t, ev fr l, ev fr c with
      | some e, .int .i64 n, .int .i64 m =>
        if 0 ≤ n ∧ n ≤ m ∧ m ≤ 1073741824 ∧ 0 < P.cellsOf e ∧ P.bytesOf e ≤ 4096 ∧ zeroOk P e = true then
          match zeroD P e with
          | some z =>
            if (elD P e z).cells.length ≠ P.cellsOf e then False else
            if d ∈ hn.refs then
              K (fr.set d (.ref H.length 0 n.toNat m.toNat (P.cellsOf e))) (H ++ [(List.replicate m.toNat z).flatten])
            else K (fr.set d (.lst (.tip e) (List.replicate n.toNat (elD P e z)))) H
          | none => False
        else False
      | _, _, _ => False
    | none => False
  | _ => False

/-- What a guard's slot says: a truth value, or nothing since it was passed over itself. -/
def gB : D → Option (Option Bool)
  | .bool c => some (some c)
  | .tup [] => some none
  | _ => none

def soWp (P : Program) (hn : Hints) (C : Callee) (o : SO) (fr : Fr) (H : Heap) (K : Fr → Heap → Prop) : Prop :=
  match o.guard with
  | none => opWp P hn C o fr H K
  | some (t, b) => match gB (fr t) with
    | some c => if c = some b then opWp P hn C o fr H K else K (fr.put o.dst (.tup [])) H
    | none => False

def regWp (P : Program) (hn : Hints) (C : Callee) : List SO → Fr → Heap → (Fr → Heap → Prop) → Prop
  | [], fr, H, K => K fr H
  | o :: os, fr, H, K => soWp P hn C o fr H fun fr H => regWp P hn C os fr H K

def rtWp (P : Program) (hn : Hints) (C : Callee) : RT → Fr → Heap → (Fr → Heap → Prop) → Prop
  | .done, fr, H, K => K fr H
  | .bad, _, _, _ => False
  | .op o t, fr, H, K => soWp P hn C o fr H fun fr H => rtWp P hn C t fr H K
  | .br a b, fr, H, K => rtWp P hn C a fr H K ∧ rtWp P hn C b fr H K

def dReady (ops : List (SO × List Nat)) (listed : List Bool) : List Nat :=
  (List.range ops.length).filter fun i => !listed.getD i true && ((ops[i]?).map fun o => o.2.all fun e => listed.getD e false).getD false

def dAny (P : Program) (hn : Hints) (C : Callee) (ops : List (SO × List Nat)) : Nat → List Bool → Fr → Heap → (Fr → Heap → Prop) → Prop
  | 0, listed, fr, H, K => dReady ops listed = [] ∧ K fr H
  | n + 1, listed, fr, H, K => (dReady ops listed = [] → K fr H) ∧
      ∀ i ∈ dReady ops listed, ∃ o, ops[i]? = some o ∧ soWp P hn C o.1 fr H fun fr H => dAny P hn C ops n (listed.set i true) fr H K

/-- The slots that an operation may write. -/
def SO.mods (o : SO) : List Nat :=
  o.dst.toList ++ match o.op with
    | .move (.tmp s) => [s]
    | .assign (.tmp s) => [s]
    | .call { callee := .builtin .append, args, .. } => match args.toList with
      | .tmp s :: _ => [s]
      | _ => []
    | _ => []
def SC.mods : SC → List Nat
  | .reg ops => ops.flatMap SO.mods
  | .regd ops => ops.flatMap fun o => o.1.mods
  | .regp ops => ops.flatMap SO.mods
  | .regt t => t.ops.flatMap SO.mods
  | .seq a b => a.mods ++ b.mods
  | .cond _ a b => a.mods ++ b.mods
  | .block _ b => b.mods
  | .loop b => b.mods
  | _ => []

def over (m : List Nat) (g fr : Fr) : Fr := fun t => if t ∈ m then g t else fr t

abbrev Ex := Exit → Fr → Heap → Prop
def andThen (k : Fr → Heap → Prop) (Q : Ex) : Ex := fun e fr H =>
  match e with
  | .normal => k fr H
  | .exit id => Q (.exit id) fr H
  | .ret => Q .ret fr H
  | _ => False
def inBlock (id : Nat) (Q : Ex) : Ex := fun e fr H =>
  match e with
  | .normal => Q .normal fr H
  | .exit i => if i = id then Q .normal fr H else Q (.exit i) fr H
  | .ret => Q .ret fr H
  | _ => False

/-- Calls that leave all boxes as they were. -/
def Grow (C : Callee) : Callee := fun f ds H K => C f ds H fun r H' => K r H' ∧ H' = H

def SC.wp (P : Program) (hn : Hints) (C : Callee) : SC → Fr → Heap → Ex → Prop
  | .skip, fr, H, Q => Q .normal fr H
  | .reg ops, fr, H, Q => regWp P hn C ops fr H (Q .normal)
  | .regd ops, fr, H, Q => dAny P hn C ops ops.length (List.replicate ops.length false) fr H (Q .normal)
  | .regp ops, fr, H, Q => regWp P hn (Grow C) ops fr H (Q .normal)
  | .regt t, fr, H, Q => rtWp P hn C t fr H (Q .normal)
  | .seq a b, fr, H, Q => a.wp P hn C fr H (andThen (fun fr H => b.wp P hn C fr H Q) Q)
  | .cond c a b, fr, H, Q => match ev fr c with
    | .bool x => if x = true then a.wp P hn C fr H Q else b.wp P hn C fr H Q
    | _ => False
  | .block id b, fr, H, Q => b.wp P hn C fr H (inBlock id Q)
  | .loop b, fr, H, Q => ∃ (I : Nat → Fr → Heap → Prop) (n0 : Nat), I n0 fr H ∧
      ∀ n g H', I n (over b.mods g fr) H' →
        b.wp P hn C (over b.mods g fr) H' (andThen (fun fr' H'' => ∃ n', n' < n ∧ I n' fr' H'') Q)
  | .exit id, fr, H, Q => Q (.exit id) fr H
  | .ret, fr, H, Q => Q .ret fr H
  | .bad, _, _, _ => False

/-- Every slot that is written, and every guard's, is one of the first 'n'. -/
def SO.fits (n : Nat) (o : SO) : Bool := o.mods.all (fun t => t < n) && match o.guard with
  | none => true
  | some (t, _) => t < n
def SC.fits (n : Nat) : SC → Bool
  | .reg ops => ops.all (SO.fits n)
  | .regd ops => ops.all fun o => o.1.fits n
  | .regp ops => ops.all (SO.fits n)
  | .regt t => t.ops.all (SO.fits n)
  | .seq a b => a.fits n && b.fits n
  | .cond _ a b => a.fits n && b.fits n
  | .block _ b => b.fits n
  | .loop b => b.fits n
  | _ => true

end Dl
