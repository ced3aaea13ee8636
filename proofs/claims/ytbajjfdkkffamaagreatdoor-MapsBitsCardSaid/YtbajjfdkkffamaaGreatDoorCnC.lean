/- The operations of the canonical run. -/
import Derived.Test.YtbajjfdkkffamaaGreatDoorCnA
namespace Go.Cn
set_option linter.unusedVariables false
set_option linter.unusedSimpArgs false

def asB : Value → Option Bool
  | .bool b => some b
  | _ => none
def asI : Value → Option Int
  | .int _ n => some n
  | _ => none
def asP : Value → Option Addr
  | .pointer (some a) => some a
  | _ => none
def asKI : Value → Option (IntKind × Int)
  | .int k n => some (k, n)
  | _ => none

/-- A value of one cell that bears no address. -/
def clean : Value → Bool
  | .bool _ | .int _ _ | .float _ _ | .string _ | .pointer none | .slice none 0 0 | .map none | .nilFunc | .nilIface => true
  | _ => false
def isCell : Value → Bool
  | .agg _ | .tuple _ => false
  | _ => true
def cellsOf : Value → Option (List Value)
  | .agg c => some c.toList
  | .tuple _ => none
  | v => some [v]
def szOf (P : Program) (t : TypeId) : Option Nat := (P.info? t).map (·.size)
def aggOf (P : Program) (t : TypeId) : Option Bool := (P.underlying t).map fun | .struct _ | .array _ _ => true | _ => false
/-- The zero value's cells. -/
def zeroOf (P : Program) (t : TypeId) : Option (List Value) :=
  ((P.info? t).bind (·.zero)).bind fun z => if z.cells.toList.all clean then some z.cells.toList else none
def mkVal (agg : Bool) (l : List Value) : Option Value := if agg then some (.agg ⟨l⟩) else l.head?
/-- A part of a struct's or an array's value. -/
def partOf (agg : Bool) (off size : Nat) (l : List Value) : Option Value := if agg then (if off + size ≤ l.length then some (.agg ⟨(l.drop off).take size⟩) else none) else l[off]?

/-- A type's lie: is it a struct or an array? how many cells? -/
def lay (P : Program) (t : TypeId) : Option (Bool × Nat) := (aggOf P t).bind fun g => (szOf P t).map fun n => (g, n)
def ld1 (x : Value) (H : CH) : Option Value := (asP x).bind fun a => (H.loadN a 1).bind List.head?
def ldN (n : Nat) (x : Value) (H : CH) : Option Value := (asP x).bind fun a => (H.loadN a n).map fun l => .agg ⟨l⟩
def stN (n : Nat) (x v : Value) (H : CH) : Option CH := (asP x).bind fun a => (cellsOf v).bind fun l => if l.length = n ∧ l.all isCell = true then H.storeN a l else none
def loadV (P : Program) (t : TypeId) (x : Value) (H : CH) : Option Value := (lay P t).bind fun (g, n) => if g then ldN n x H else ld1 x H
def storeV (P : Program) (t : TypeId) (x v : Value) (H : CH) : Option CH := (szOf P t).bind fun n => stN n x v H
def newV (H : CH) (e : TypeId) (l : List Value) : Value × CH := (.pointer (some ⟨H.n, 0, none⟩), H.new (.cells l e))

/-! ### Numbers -/
def bits2 (f : (n : Nat) → BitVec n → BitVec n → BitVec n) (k : IntKind) (a b : Int) : Value := .int k (k.wrap ((f k.bits (BitVec.ofInt k.bits a) (BitVec.ofInt k.bits b)).toNat : Int))
def cInt (op : BinOp) (k : IntKind) (a b : Int) : Option Value :=
  match op with
  | .add => some (.int k (k.wrap (a + b)))
  | .sub => some (.int k (k.wrap (a - b)))
  | .mul => some (.int k (k.wrap (a * b)))
  | .quo => if b = 0 then none else some (.int k (k.wrap (a.tdiv b)))
  | .rem => if b = 0 then none else some (.int k (a.tmod b))
  | .and => some (bits2 (fun _ x y => x &&& y) k a b)
  | .or => some (bits2 (fun _ x y => x ||| y) k a b)
  | .xor => some (bits2 (fun _ x y => x ^^^ y) k a b)
  | .andNot => some (bits2 (fun _ x y => x &&& ~~~y) k a b)
  | .eql => some (.bool (a == b))
  | .neq => some (.bool (a != b))
  | .lss => some (.bool (decide (a < b)))
  | .leq => some (.bool (decide (a ≤ b)))
  | .gtr => some (.bool (decide (a > b)))
  | .geq => some (.bool (decide (a ≥ b)))
  | _ => none
def cShift (op : BinOp) (k : IntKind) (a b : Int) : Option Value :=
  match op with
  | .shl => if b < 0 then none else some (.int k (k.wrap (a * 2 ^ (min b.toNat k.bits))))
  | .shr => if b < 0 then none else some (.int k (a.fdiv (2 ^ (min b.toNat k.bits))))
  | _ => none
def cStr (op : BinOp) (a b : ByteArray) : Option Value :=
  match op with
  | .add => if ((a.size + b.size : Nat) : Int) > IntKind.i64.max then none else some (.string (a ++ b))
  | .eql => some (.bool (a.toList == b.toList))
  | .neq => some (.bool !(a.toList == b.toList))
  | .lss => some (.bool (Op.bytesLess a.toList b.toList))
  | .leq => some (.bool (Op.bytesLess a.toList b.toList || a.toList == b.toList))
  | .gtr => some (.bool !(Op.bytesLess a.toList b.toList || a.toList == b.toList))
  | .geq => some (.bool !Op.bytesLess a.toList b.toList)
  | _ => none

/-! ### Equality -/
/-- Two rows of cells, part by part. -/
def eqParts (f : TypeId → Value → Value → Option Bool) (P : Program) (xs ys : List Value) : List Field → Option Bool
  | [] => some true
  | g :: r =>
    if g.name == "_" then none else
    (aggOf P g.type).bind fun a => (szOf P g.type).bind fun n => (partOf a g.offset n xs).bind fun x => (partOf a g.offset n ys).bind fun y =>
      (f g.type x y).bind fun b => (eqParts f P xs ys r).map fun c => b && c
def cEq (P : Program) : Nat → TypeId → Value → Value → Option Bool
  | 0, _, _, _ => none
  | d + 1, t, x, y =>
    match P.underlying t, x, y with
    | some .bool, .bool a, .bool b => some (a == b)
    | some (.int _), .int k a, .int k' b => if k = k' then some (a == b) else none
    | some .string, .string a, .string b => some (a == b)
    | some (.pointer _), .pointer none, .pointer b => some b.isNone
    | some (.pointer _), .pointer (some _), .pointer none => some false
    | some (.slice _), .slice none _ _, .slice b _ _ => some b.isNone
    | some (.slice _), .slice (some _) _ _, .slice none _ _ => some false
    | some (.map _ _), .map none, .map b => some b.isNone
    | some (.map _ _), .map (some _), .map none => some false
    | some (.func _ _ _), .nilFunc, .nilFunc => some true
    | some (.func _ _ _), .nilFunc, .func _ _ _ => some false
    | some (.func _ _ _), .func _ _ _, .nilFunc => some false
    | some (.struct fs), .agg xs, .agg ys => if P.stoodInHeld t then none else eqParts (cEq P d) P xs.toList ys.toList fs.toList
    | _, _, _ => none
def eqDepth : Nat := 10000
def eqMay (P : Program) (t : TypeId) : Value → Bool
  | .agg _ => !P.eqGuardType P.depth t
  | .nilIface => false
  | _ => true
def cEqTop (P : Program) (t : TypeId) (x y : Value) : Option Bool := cond (eqMay P t x) (cEq P eqDepth t x y) none

def cBin (P : Program) (op : BinOp) (t : TypeId) (x y : Value) : Option Value :=
  match x, y with
  | .int k a, .int k' b => match op with
    | .shl => cShift .shl k a b
    | .shr => cShift .shr k a b
    | _ => if k = k' then cInt op k a b else none
  | .string a, .string b => cStr op a b
  | x, y => match op with
    | .eql => (cEqTop P t x y).map fun b => .bool b
    | .neq => (cEqTop P t x y).map fun b => .bool !b
    | _ => none
def cUn (op : UnOp) (x : Value) : Option Value :=
  match op, x with
  | .not, .bool b => some (.bool !b)
  | .neg, .int k n => some (.int k (k.wrap (0 - n)))
  | .xor, .int k n => some (bits2 (fun _ x y => x ^^^ y) k (if k.signed then -1 else k.max) n)
  | _, _ => none

/-! ### Structs, arrays, slices -/
def fillParts (place : Nat → Option (Nat × Nat)) (cells : List Value) : List (Nat × Value) → Option (List Value)
  | [] => some cells
  | (i, v) :: r => (place i).bind fun (off, size) => (cellsOf v).bind fun l => if l.length = size ∧ off + size ≤ cells.length then fillParts place (CH.splice cells off l) r else none
def fieldPlaces (P : Program) (fs : Array Field) (i : Nat) : Option (Nat × Nat) := fs[i]?.bind fun f => (szOf P f.type).map fun n => (f.offset, n)
def cBuild (P : Program) (t : TypeId) (parts : List (Nat × Value)) : Option Value :=
  (zeroOf P t).bind fun z =>
    match P.underlying t with
    | some (.struct fs) => if fs.toList.all (fun f => (szOf P f.type).isSome) then (fillParts (fieldPlaces P fs) z parts).map fun l => .agg ⟨l⟩ else none
    | some (.array _ e) => (szOf P e).bind fun n => (fillParts (fun i => some (i * n, n)) z parts).map fun l => .agg ⟨l⟩
    | _ => none
def rep (n : Nat) (z : List Value) : List Value := (List.replicate n z).flatten
def cBuildSlice (P : Program) (t : TypeId) (len : Nat) (parts : List (Nat × Value)) (H : CH) : Option (Value × CH) :=
  match P.underlying t with
  | some (.slice e) => (szOf P e).bind fun n =>
    if len * n > 2 ^ 24 then none else
    (if len * n = 0 then some [] else zeroOf P e).bind fun z =>
      if len * n = 0 ∨ z.length = n then
        (fillParts (fun i => some (i * n, n)) (rep len z) parts).map fun l => (.slice (some ⟨H.n, 0, none⟩) len (2 * len + 1), H.new (.cells l e))
      else none
  | _ => none
def cMakeSlice (P : Program) (t : TypeId) (l c : Value) (H : CH) : Option (Value × CH) :=
  match P.underlying t, l, c with
  | some (.slice e), .int _ l, .int _ c => (P.info? e).bind fun i =>
    if 0 ≤ l ∧ l ≤ c ∧ c * i.bytes ≤ 2 ^ 47 ∧ c ≤ IntKind.i64.max ∧ i.size ≠ 0 then
      (zeroOf P e).bind fun z => if z.length = i.size then some (.slice (some ⟨H.n, 0, none⟩) l.toNat (2 * c.toNat + 1), H.new (.cells (rep c.toNat z) e)) else none
    else none
  | _, _, _ => none
def addA (a : Addr) (n : Nat) : Addr := ⟨a.block, a.off + n, none⟩
def loOf (lo : Option Value) : Option Int :=
  match lo with
  | none => some 0
  | some v => asI v
def hiOf (len : Nat) (hi : Option Value) : Option Int :=
  match hi with
  | none => some (len : Int)
  | some v => asI v
/-- The parts of a string. -/
def cSliceStr (s : ByteArray) (lo hi : Option Value) : Option Value :=
  (hiOf s.size hi).bind fun h => (loOf lo).bind fun l => if 0 ≤ l ∧ l ≤ h ∧ h ≤ s.size then some (.string (s.extract l.toNat h.toNat)) else none
def capTop (cap len : Nat) : Nat := if cap % 2 = 1 then cap / 2 else len
/-- The parts of a slice. A capacity that is not known stays so; the end must then lie within the length. -/
def cSliceSl (n : Nat) (a : Addr) (len cap : Nat) (lo hi mx : Option Value) : Option Value :=
  (hiOf len hi).bind fun h => (loOf lo).bind fun l =>
    match mx with
    | none =>
      if cap % 2 = 1 then
        if 0 ≤ l ∧ l ≤ h ∧ h ≤ (cap / 2 : Nat) then some (.slice (some (if cap / 2 = l.toNat then a else addA a (l.toNat * n))) (h.toNat - l.toNat) (2 * (cap / 2 - l.toNat) + 1)) else none
      else if cap = 2 * n ∧ 0 ≤ l ∧ l ≤ h ∧ h ≤ len then some (.slice (some (addA a (l.toNat * n))) (h.toNat - l.toNat) (2 * n)) else none
    | some v => (asI v).bind fun m =>
      if hi.isSome ∧ 0 ≤ l ∧ l ≤ h ∧ h ≤ m ∧ m ≤ (capTop cap len : Nat) then
        some (.slice (some (if m = l then a else addA a (l.toNat * n))) (h.toNat - l.toNat) (2 * (m.toNat - l.toNat) + 1)) else none
def sliceSl (n : Nat) (x : Value) (lo hi mx : Option Value) : Option Value :=
  match x with
  | .slice (some a) len cap => cSliceSl n a len cap lo hi mx
  | .slice none _ _ =>
    (hiOf 0 hi).bind fun h => (loOf lo).bind fun l => (hiOf 0 mx).bind fun m =>
      if (mx.isSome = true → hi.isSome = true) ∧ l = 0 ∧ h = 0 ∧ m = 0 then some (.slice none 0 0) else none
  | _ => none
def sliceArr (n k : Nat) (x : Value) (lo hi mx : Option Value) : Option Value := (asP x).bind fun a => if a.spot = none then cSliceSl n a k (2 * k + 1) lo hi mx else none
def sliceStr (x : Value) (lo hi mx : Option Value) : Option Value :=
  match x with
  | .string s => if mx.isSome then none else cSliceStr s lo hi
  | _ => none
def cSlice (P : Program) (t : TypeId) (x : Value) (lo hi mx : Option Value) : Option Value :=
  match P.underlying t with
  | some .string => sliceStr x lo hi mx
  | some (.slice e) => (szOf P e).bind fun n => sliceSl n x lo hi mx
  | some (.array k e) => (szOf P e).bind fun n => sliceArr n k x lo hi mx
  | _ => none
def fieldA (off : Nat) (x : Value) : Option Value := (asP x).bind fun a => some (.pointer (some (addA a off)))
def cFieldAddr (P : Program) (s : TypeId) (x : Value) (f : Nat) : Option Value :=
  match P.underlying s with
  | some (.struct fs) => fs[f]?.bind fun g => (szOf P g.type).bind fun n => if n = 0 then none else fieldA g.offset x
  | _ => none
def partV (agg : Bool) (off size : Nat) (x : Value) : Option Value :=
  match x with
  | .agg c => partOf agg off size c.toList
  | _ => none
def cField (P : Program) (s : TypeId) (x : Value) (f : Nat) : Option Value :=
  match P.underlying s with
  | some (.struct fs) => fs[f]?.bind fun g => (lay P g.type).bind fun (a, n) => partV a g.offset n x
  | _ => none
def idxSl (n : Nat) (x i : Value) : Option Value :=
  match x with
  | .slice (some a) len _ => (asI i).bind fun i => if 0 ≤ i ∧ i < len then some (.pointer (some (addA a (i.toNat * n)))) else none
  | _ => none
def idxArr (n len : Nat) (x i : Value) : Option Value := (asP x).bind fun a => (asI i).bind fun i => if 0 ≤ i ∧ i < len then some (.pointer (some (addA a (i.toNat * n)))) else none
def cIndexAddr (P : Program) (t : TypeId) (x i : Value) : Option Value :=
  match P.underlying t with
  | some (.slice e) => (szOf P e).bind fun n => idxSl n x i
  | some (.array len e) => (szOf P e).bind fun n => idxArr n len x i
  | _ => none
def idxStr (x i : Value) : Option Value :=
  match x with
  | .string s => (asI i).bind fun i => if 0 ≤ i then (s.data[i.toNat]?).map fun b => .int .u8 b.toNat else none
  | _ => none
def idxAgg (a : Bool) (n len : Nat) (x i : Value) : Option Value := (asI i).bind fun i => if 0 ≤ i ∧ i < len then partV a (i.toNat * n) n x else none
def cIndex (P : Program) (t : TypeId) (x i : Value) : Option Value :=
  match P.underlying t with
  | some (.array len e) => (lay P e).bind fun (a, n) => idxAgg a n len x i
  | some .string => idxStr x i
  | _ => none
def cExtract (x : Value) (i : Nat) : Option Value :=
  match x with
  | .tuple c => c[i]?
  | _ => none

/-! ### Conversions -/
def convInt (k : IntKind) (x : Value) : Option Value := (asI x).map fun n => .int k (k.wrap n)
def convStr (x : Value) : Option Value :=
  match x with
  | .string b => some (.string b)
  | _ => none
def cConv (P : Program) (s d : TypeId) (x : Value) : Option Value :=
  match P.underlying s, P.underlying d with
  | some _, some (.int k) => convInt k x
  | some .string, some .string => convStr x
  | _, _ => none
def bytesOf : List Value → Option (List UInt8)
  | [] => some []
  | .int .u8 n :: r => (bytesOf r).map (UInt8.ofNat n.toNat :: ·)
  | _ => none
/-- A slice of bytes as a string. -/
def toStr (x : Value) (H : CH) : Option Value :=
  match x with
  | .slice (some a) n _ => (H.loadN a n).bind fun l => (bytesOf l).map fun b => .string ⟨⟨b⟩⟩
  | .slice none _ _ => some (.string .empty)
  | _ => none
def cToStr (P : Program) (s d : TypeId) (x : Value) (H : CH) : Option Value :=
  match P.underlying s, P.underlying d with
  | some (.slice e), some .string => match P.underlying e with
    | some (.int .u8) => toStr x H
    | _ => none
  | _, _ => none
/-- A string as a slice of bytes. -/
def toBytes (e : TypeId) (x : Value) (H : CH) : Option (Value × CH) :=
  match x with
  | .string b => if b.size ≤ 2 ^ 46 then some (.slice (some ⟨H.n, 0, none⟩) b.size 2, H.new (.cells (b.data.toList.map fun c => .int .u8 c.toNat) e)) else none
  | _ => none
def cToBytes (P : Program) (s d : TypeId) (x : Value) (H : CH) : Option (Value × CH) :=
  match P.underlying s, P.underlying d with
  | some .string, some (.slice e) => match P.underlying e with
    | some (.int .u8) => toBytes e x H
    | _ => none
  | _, _ => none

/-! ### Built-in functions -/
def lenSl : Value → Option Value
  | .slice _ n _ => some (goInt n)
  | _ => none
def lenStr : Value → Option Value
  | .string s => some (goInt s.size)
  | _ => none
def lenMap (x : Value) (H : CH) : Option Value :=
  match x with
  | .map none => some (goInt 0)
  | .map (some r) => match H.get r with
    | some (.map es _) => some (goInt es.length)
    | _ => none
  | _ => none
def cLen (P : Program) (t : TypeId) (x : Value) (H : CH) : Option Value :=
  match P.underlying t with
  | some .string => lenStr x
  | some (.array n _) => some (goInt n)
  | some (.slice _) => lenSl x
  | some (.map _ _) => lenMap x H
  | _ => none
def cMinMax (mx : Bool) : List Value → Option Value
  | [.int k x, .int _ y] => some (.int k (if mx then (if y > x then y else x) else (if y < x then y else x)))
  | _ => none
/-- What is appended, or copied. -/
def srcCells (n : Nat) (x : Value) (H : CH) : Option (Nat × List Value) :=
  match x with
  | .slice none _ _ => some (0, [])
  | .slice (some a) k _ => (H.loadN a (k * n)).map fun l => (k, l)
  | .string s => if n = 1 then some (s.size, s.data.toList.map fun b => .int .u8 b.toNat) else none
  | _ => none
/-- 'append', where the elements have n cells and b bytes. -/
def appendN (e : TypeId) (sz b : Nat) (s x : Value) (H : CH) : Option (Value × CH) :=
  (srcCells sz x H).bind fun (k, l) =>
    if !l.all isCell then none else
    match s with
    | .slice none _ _ =>
      if k = 0 then some (.slice none 0 0, H)
      else if k * b ≤ 2 ^ 46 ∧ k ≤ 2 ^ 46 then some (.slice (some ⟨H.n, 0, none⟩) k (2 * sz), H.new (.cells l e)) else none
    | .slice (some a) n cap =>
      if cap % 2 = 1 then
        if n + k ≤ cap / 2 then (H.storeN (addA a (n * sz)) l).map fun H' => (.slice (some a) (n + k) cap, H')
        else if (n + k) * b ≤ 2 ^ 46 ∧ n + k ≤ 2 ^ 46 then (H.loadN a (n * sz)).bind fun o => some (.slice (some ⟨H.n, 0, none⟩) (n + k) (2 * sz), H.new (.cells (o ++ l) e))
        else none
      else if cap = 2 * sz ∧ H.lim ≤ a.block ∧ (n + k) * b ≤ 2 ^ 46 ∧ n + k ≤ 2 ^ 46 then
        (H.loadN a (n * sz)).bind fun o => some (.slice (some ⟨H.n, 0, none⟩) (n + k) (2 * sz), (H.put a.block none).new (.cells (o ++ l) e))
      else none
    | _ => none
/-- The element's cells and bytes, where its zero value is of just these cells. -/
def elemLay (P : Program) (e : TypeId) : Option (Nat × Nat) := (P.info? e).bind fun i => (zeroOf P e).bind fun z => if i.size = 0 ∨ z.length ≠ i.size then none else some (i.size, i.bytes)
def notInt : TypeDesc → Bool
  | .slice _ | .string => true
  | _ => false
def isIntT : TypeDesc → Bool
  | .int _ => true
  | _ => false
/-- 'append' of so many zero values, where the capacity is known and too small for them. -/
def appendZ (e : TypeId) (sz b : Nat) (z : List Value) (s x : Value) (H : CH) : Option (Value × CH) :=
  match x, s with
  | .int _ m, .slice (some a) n cap =>
    if cap % 2 = 1 ∧ 0 ≤ m ∧ m ≤ 2 ^ 40 then
      if m = 0 then some (.slice (some a) n cap, H)
      else if cap / 2 < n + m.toNat ∧ (n + m.toNat) * b ≤ 2 ^ 46 ∧ n + m.toNat ≤ 2 ^ 46 then
        (H.loadN a (n * sz)).bind fun o => some (.slice (some ⟨H.n, 0, none⟩) (n + m.toNat) (2 * sz), H.new (.cells (o ++ rep m.toNat z) e))
      else none
    else none
  | _, _ => none
def cAppend (P : Program) (ts : Array TypeId) (s x : Value) (H : CH) : Option (Value × CH) :=
  (ts[0]?.bind P.underlying).bind fun d => match d with
    | .slice e => (ts[1]?.bind P.underlying).bind fun xt => if notInt xt then (elemLay P e).bind fun (n, b) => appendN e n b s x H
      else if isIntT xt then (elemLay P e).bind fun (n, b) => (zeroOf P e).bind fun z => appendZ e n b z s x H else none
    | _ => none
def copyN (sz : Nat) (d x : Value) (H : CH) : Option (Value × CH) :=
  (srcCells sz x H).bind fun (k, l) =>
    match d with
    | .slice none _ _ => some (goInt 0, H)
    | .slice (some a) m _ =>
      if (l.take (min k m * sz)).all isCell then (if min k m * sz = 0 then some H else H.storeN a (l.take (min k m * sz))).map fun H' => (goInt (min k m : Nat), H') else none
    | _ => none
def cCopy (P : Program) (ts : Array TypeId) (d x : Value) (H : CH) : Option (Value × CH) :=
  match ts[0]?.bind P.underlying with
  | some (.slice e) => (szOf P e).bind fun n => copyN n d x H
  | _ => none

/-! ### Maps -/
def keyEq : TypeDesc → Value → Value → Option Bool
  | .int _, .int k a, .int k' b => if k = k' then some (a == b) else none
  | .string, .string a, .string b => some (a == b)
  | .bool, .bool a, .bool b => some (a == b)
  | _, _, _ => none
def findE (d : TypeDesc) (k : Value) : List MapEntry → Nat → Option (Option (Nat × Value))
  | [], _ => some none
  | e :: r, i => (keyEq d k e.key).bind fun b => if b then some (some (i, e.val)) else findE d k r (i + 1)
def isKey : TypeDesc → Value → Bool
  | .int _, .int _ _ | .string, .string _ | .bool, .bool _ => true
  | _, _ => false
def mapEs (r : Option Nat) (H : CH) : Option (List MapEntry) :=
  match r with
  | none => some []
  | some r => match H.get r with
    | some (.map es _) => some es
    | _ => none
def asM : Value → Option (Option Nat)
  | .map r => some r
  | _ => none
def okV (ok : Bool) (v : Value) (b : Bool) : Value := if ok then .tuple #[v, .bool b] else v
def lookupM (d : TypeDesc) (z : Value) (x k : Value) (ok : Bool) (H : CH) : Option Value :=
  if !isKey d k then none else
  (asM x).bind fun r => (mapEs r H).bind fun es => (findE d k es 0).bind fun q => match q with
    | some (_, v) => some (okV ok v true)
    | none => some (okV ok z false)
def notTuple : Value → Bool
  | .tuple _ => false
  | _ => true
def zeroV (P : Program) (t : TypeId) : Option Value :=
  ((P.info? t).bind (·.zero)).bind fun z => if z.cells.toList.all clean = true ∧ notTuple z = true then some z else none
def cLookup (P : Program) (t : TypeId) (x k : Value) (ok : Bool) (H : CH) : Option Value :=
  match P.underlying t with
  | some (.map kt et) => (P.underlying kt).bind fun d => (zeroV P et).bind fun z => lookupM d z x k ok H
  | _ => none
def setAt (es : List MapEntry) (i : Nat) (k v : Value) : List MapEntry := es.modify i fun e => { e with key := k, val := v }
def mapSet (d : TypeDesc) (m k v : Value) (H : CH) : Option CH :=
  (asM m).bind fun r => r.bind fun r => if !isKey d k || decide (r < H.lim) then none else
    match H.get r with
    | some (.map es clock) => (findE d k es 0).bind fun q => match q with
      | some (i, _) => some (H.put r (some (.map (setAt es i k v) clock)))
      | none => some (H.put r (some (.map (es ++ [{ key := k, val := v, born := clock }]) (clock + 1))))
    | _ => none
def cMapSet (P : Program) (t : TypeId) (m k v : Value) (H : CH) : Option CH :=
  match P.underlying t with
  | some (.map kt _) => (P.underlying kt).bind fun d => mapSet d m k v H
  | _ => none
end Go.Cn
