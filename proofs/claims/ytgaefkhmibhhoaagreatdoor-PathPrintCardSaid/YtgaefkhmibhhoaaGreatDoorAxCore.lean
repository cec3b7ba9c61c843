/- A part of the proof that rubriclaw22.PathPrint returns true for every path. -/
import GoSem.Dispatch
import GoSem.Machine.Frame
import Derived.Orders
set_option linter.unusedSimpArgs false
set_option linter.unusedVariables false
namespace Go.AX
open Go

/-! A plain evaluator of loaded code over a heap of numbered blocks. -/

inductive Tr (α : Type) where
  | lf
  | nd (v : Option α) (l r : Tr α)

def Tr.get {α : Type} : Tr α → Nat → Option α
  | .lf, _ => none
  | .nd v l r, n => bif Nat.beq n 0 then v else bif Nat.beq (n % 2) 1 then l.get (n / 2) else r.get ((n - 1) / 2)

def Tr.set {α : Type} (x : α) : Nat → Tr α → Nat → Tr α
  | 0, t, _ => t
  | f + 1, .lf, n => bif Nat.beq n 0 then .nd (some x) .lf .lf else bif Nat.beq (n % 2) 1 then .nd none (Tr.set x f .lf (n / 2)) .lf else .nd none .lf (Tr.set x f .lf ((n - 1) / 2))
  | f + 1, .nd v l r, n => bif Nat.beq n 0 then .nd (some x) l r else bif Nat.beq (n % 2) 1 then .nd v (Tr.set x f l (n / 2)) r else .nd v l (Tr.set x f r ((n - 1) / 2))

/-- A row of cells. 'es': how many cells one element of a slice over it has. 'fam': the rows that may lie in one array. -/
structure Blk where
  cells : List Value
  elem : TypeId
  es : Nat
  fam : Nat
  ro : Bool
  deriving Inhabited

inductive AO where
  | cells (b : Blk)
  | iter (s : ByteArray) (pos : Nat)
  | dead
  deriving Inhabited

structure Heap where
  t : Tr AO
  next : Nat
  fams : Tr (List Nat)

def Heap.get (h : Heap) (x : Nat) : Option AO := h.t.get x
def Heap.put (h : Heap) (x : Nat) (o : AO) : Heap := { h with t := Tr.set o (x + 1) h.t x }
def Heap.members (h : Heap) (f : Nat) : List Nat := (h.fams.get f).getD []
def Heap.setMembers (h : Heap) (f : Nat) (l : List Nat) : Heap := { h with fams := Tr.set l (f + 1) h.fams f }

/-- A new block of a family of its own. -/
def Heap.push (h : Heap) (o : AO) : Heap := { t := Tr.set o (h.next + 1) h.t h.next, next := h.next + 1, fams := h.fams }
/-- A new row. -/
def Heap.row (h : Heap) (cells : List Value) (elem : TypeId) (es : Nat) : Nat × Heap :=
  (h.next, (h.push (.cells ⟨cells, elem, es, h.next, false⟩)).setMembers h.next [h.next])

def Heap.killAll (h : Heap) : List Nat → Heap
  | [] => h
  | x :: l => Heap.killAll (h.put x .dead) l
/-- All but one of a family are let go. -/
def Heap.only (h : Heap) (f x : Nat) : Heap :=
  match (h.members f).filter (fun y => !Nat.beq y x) with
  | [] => h
  | l => (h.killAll l).setMembers f [x]

def Heap.blk (h : Heap) (x : Nat) : Option Blk :=
  match h.get x with
  | some (.cells b) => some b
  | _ => none

def takeN : Nat → List Value → Option (List Value)
  | 0, _ => some []
  | _ + 1, [] => none
  | n + 1, v :: l => (takeN n l).map (v :: ·)
def dropN : Nat → List Value → List Value
  | 0, l => l
  | _ + 1, [] => []
  | n + 1, _ :: l => dropN n l
/-- 'new' in the place of as many cells, from one on. -/
def over : Nat → List Value → List Value → Option (List Value)
  | _, l, [] => some l
  | _, [], _ :: _ => none
  | 0, _ :: l, v :: new => (over 0 l new).map (v :: ·)
  | o + 1, x :: l, new => (over o l new).map (x :: ·)

def Heap.read (h : Heap) (x o n : Nat) : Option (List Value) :=
  match h.blk x with
  | some b => takeN n (dropN o b.cells)
  | none => none

def oneCell : Value → Bool
  | .agg _ | .tuple _ => false
  | _ => true

def Heap.write (h : Heap) (x o : Nat) (new : List Value) : Option Heap :=
  match h.blk x with
  | some b =>
    if b.ro then none else
    match over o b.cells new with
    | some cells => some ((h.only b.fam x).put x (.cells { b with cells }))
    | none => none
  | none => none

/-- Behind 'n' cells of a row from 'o' on, which end it, stand others now: in a row of their own, which may be the old one. -/
def Heap.grow (h : Heap) (x o n : Nat) (new : List Value) : Option (Nat × Heap) :=
  match h.blk x with
  | some b =>
    if b.ro || o % b.es != 0 || !Nat.beq (o + n) b.cells.length then none else
    match takeN n (dropN o b.cells) with
    | some old =>
      let h1 := h.only b.fam x
      some (h1.next, (h1.push (.cells ⟨old ++ new, b.elem, b.es, b.fam, false⟩)).setMembers b.fam [x, h1.next])
    | none => none
  | none => none

def closed0 : Value → Bool
  | .bool _ | .int .. | .string _ | .pointer none | .slice none 0 0 | .map none | .chan none | .nilFunc | .nilIface => true
  | _ => false
def closed : Value → Bool
  | .agg cs => cs.toList.all closed0
  | v => closed0 v

def isUndef : Value → Bool
  | .tuple vs => vs.size == 0
  | _ => false

abbrev Tm := List Value

def getT : Tm → Nat → Value
  | [], _ => undef
  | v :: _, 0 => v
  | _ :: l, n + 1 => getT l n
def setT : Tm → Nat → Value → Tm
  | [], _, _ => []
  | _ :: l, 0, v => v :: l
  | x :: l, n + 1, v => x :: setT l n v

def ev (tm : Tm) : Operand → Value
  | .tmp t => getT tm t
  | .const v => if closed v then v else undef
  | .global g => .pointer (some ⟨g, 0, none⟩)
  | .func f => .func (.func f) #[] #[]

/-- A text's bytes. -/
def bl (s : ByteArray) : List UInt8 := s.data.toList

/-- So many elements of a row, of so many cells and bytes each: is there room for them, whatever was there? -/
def small (need size : Nat) (bytes : Nat) : Bool := Nat.ble ((2 * need + 8) * (bytes + size + 1)) (2 ^ 46)

/-- May an operand be read at all? (A constant that names no memory; a package-level variable that there is.) -/
def opdOk (P : Program) : Operand → Bool
  | .const v => closed v
  | .global g => Nat.blt g P.globals.size
  | _ => true
def opsOk (P : Program) (ops : Array Oper) : Bool := ops.toList.all fun o => o.op.operands.toList.all (opdOk P)

/-! ### operations that only read -/
section
variable (P : Program)

def isAgg (t : TypeId) : Option Bool :=
  match P.underlying t with
  | some (.struct _) | some (.array _ _) => some true
  | some _ => some false
  | none => none
def sizeOf (t : TypeId) : Option Nat := (P.info? t).map (·.size)
/-- A type's zero value: one that names no memory. -/
def zeroOf (t : TypeId) : Option Value :=
  match (P.info? t).bind (·.zero) with
  | some z => if closed z then some z else none
  | none => none

def loadVar (h : Heap) (t : TypeId) (a : Addr) : Option Value :=
  match isAgg P t, a.spot with
  | some true, none => do
    let n ← sizeOf P t
    let l ← h.read a.block a.off n
    some (.agg l.toArray)
  | some false, none => do
    match ← h.read a.block a.off 1 with
    | [v] => some v
    | _ => none
  | _, _ => none

/-- A part of cells. -/
def part (t : TypeId) (cs : List Value) (off : Nat) : Option Value :=
  match isAgg P t with
  | some true => do
    let n ← sizeOf P t
    let l ← takeN n (dropN off cs)
    some (.agg l.toArray)
  | some false => cs[off]?
  | none => none

def eqFlat : List Field → List Value → List Value → Option Bool
  | [], _, _ => some true
  | f :: fs, xs, ys =>
    if f.name = "_" then none else
    match P.underlying f.type, xs[f.offset]?, ys[f.offset]? with
    | some (.int _), some (.int k a), some (.int k' b) => if k = k' then (if a == b then eqFlat fs xs ys else some false) else none
    | some .string, some (.string a), some (.string b) => if bl a == bl b then eqFlat fs xs ys else some false
    | some .bool, some (.bool a), some (.bool b) => if a == b then eqFlat fs xs ys else some false
    | _, _, _ => none

def eqVals (c : Bool) (t : TypeId) (x y : Value) : Option Bool :=
  match P.underlying t, x, y with
  | some .bool, .bool a, .bool b => some (a == b)
  | some (.pointer _), .pointer none, .pointer b => some b.isNone
  | some (.pointer _), .pointer (some _), .pointer none => some false
  | some (.pointer e), .pointer (some a), .pointer (some b) =>
    match sizeOf P e with
    | some n => if n ≠ 0 then (if a.block = b.block ∧ a.spot = none ∧ b.spot = none then some (a.off == b.off) else none) else none
    | none => none
  | some (.slice _), .slice none _ _, .slice b _ _ => some b.isNone
  | some (.slice _), .slice (some _) _ _, .slice none _ _ => some false
  | some (.func _ _ _), .nilFunc, .nilFunc => some true
  | some (.func _ _ _), .func _ _ _, .nilFunc => some false
  | some (.func _ _ _), .nilFunc, .func _ _ _ => some false
  | some (.interface _), .iface _ _, .nilIface => some false
  | some (.interface _), .nilIface, .iface _ _ => some false
  | some (.interface _), .nilIface, .nilIface => if c then some true else none
  | some (.struct fs), .agg xs, .agg ys => if P.stoodInHeld t || P.eqGuardType P.depth t then none else eqFlat P fs.toList xs.toList ys.toList
  | _, _, _ => none

def binV (c : Bool) (op : BinOp) (t : TypeId) (x y : Value) : Option Value :=
  match op, x, y with
  | .shl, .int k a, .int _ b => if b < 0 then none else some (.int k (k.wrap (a * 2 ^ (min b.toNat k.bits))))
  | .shr, .int k a, .int _ b => if b < 0 then none else some (.int k (a.fdiv (2 ^ (min b.toNat k.bits))))
  | op, .int k a, .int k' b =>
    if k ≠ k' then none else
    match op with
    | .add => some (.int k (k.wrap (a + b)))
    | .sub => some (.int k (k.wrap (a - b)))
    | .mul => some (.int k (k.wrap (a * b)))
    | .quo => if b = 0 then none else some (.int k (k.wrap (a.tdiv b)))
    | .rem => if b = 0 then none else some (.int k (a.tmod b))
    | .and => some (.int k (k.wrap (BitVec.ofInt k.bits a &&& BitVec.ofInt k.bits b).toNat))
    | .or => some (.int k (k.wrap (BitVec.ofInt k.bits a ||| BitVec.ofInt k.bits b).toNat))
    | .xor => some (.int k (k.wrap (BitVec.ofInt k.bits a ^^^ BitVec.ofInt k.bits b).toNat))
    | .andNot => some (.int k (k.wrap (BitVec.ofInt k.bits a &&& ~~~BitVec.ofInt k.bits b).toNat))
    | .eql => some (.bool (a == b))
    | .neq => some (.bool (a != b))
    | .lss => some (.bool (a < b))
    | .leq => some (.bool (a ≤ b))
    | .gtr => some (.bool (a > b))
    | .geq => some (.bool (a ≥ b))
    | _ => none
  | op, .string a, .string b =>
    match op with
    | .add => if small (bl a).length (bl b).length 1 then some (.string ⟨(bl a ++ bl b).toArray⟩) else none
    | .eql => some (.bool (bl a == bl b))
    | .neq => some (.bool !(bl a == bl b))
    | .lss => some (.bool (Op.bytesLess (bl a) (bl b)))
    | .leq => some (.bool (Op.bytesLess (bl a) (bl b) || bl a == bl b))
    | .gtr => some (.bool !(Op.bytesLess (bl a) (bl b) || bl a == bl b))
    | .geq => some (.bool !(Op.bytesLess (bl a) (bl b)))
    | _ => none
  | .eql, x, y => (eqVals P c t x y).map .bool
  | .neq, x, y => (eqVals P c t x y).map fun b => .bool !b
  | _, _, _ => none

def unV (op : UnOp) (x : Value) : Option Value :=
  match op, x with
  | .neg, .int k n => some (.int k (k.wrap (0 - n)))
  | .xor, .int k n => some (.int k (k.wrap (BitVec.ofInt k.bits (if k.signed then -1 else k.max) ^^^ BitVec.ofInt k.bits n).toNat))
  | .not, .bool b => some (.bool !b)
  | _, _ => none

def bytesOf : List Value → Option (List UInt8)
  | [] => some []
  | .int .u8 n :: l => (bytesOf l).map (UInt8.ofNat n.toNat :: ·)
  | _ => none
def runesOf : List Value → Option (List UInt8)
  | [] => some []
  | .int .i32 n :: l => (runesOf l).map ((Utf8.encode n).data.toList ++ ·)
  | _ => none

/-- A conversion that makes no block. -/
def convV (h : Heap) (src dst : TypeId) (x : Value) : Option Value :=
  match P.underlying src, P.underlying dst, x with
  | some (.int _), some (.int k), .int _ n => some (.int k (k.wrap n))
  | some (.int _), some .string, .int _ n => some (.string (Utf8.encode n))
  | some .string, some .string, .string s => some (.string s)
  | some (.slice e), some .string, .slice none _ _ =>
    match P.underlying e with
    | some (.int .u8) | some (.int .i32) => some (.string ByteArray.empty)
    | _ => none
  | some (.slice e), some .string, .slice (some a) len _ =>
    match P.underlying e, a.spot with
    | some (.int .u8), none => do
      let l ← h.read a.block a.off len
      let b ← bytesOf l
      some (.string ⟨b.toArray⟩)
    | some (.int .i32), none => do
      let l ← h.read a.block a.off len
      let b ← runesOf l
      some (.string ⟨b.toArray⟩)
    | _, _ => none
  | some (.pointer _), some .unsafePointer, .pointer none => some (.pointer none)
  | some .unsafePointer, some (.pointer _), .pointer none => some (.pointer none)
  | some (.pointer t), some .unsafePointer, .pointer (some a) =>
    match h.blk a.block, a.spot, sizeOf P t with
    | some b, none, some n => if a.off < b.cells.length ∧ n ≠ 0 then some x else none
    | _, _, _ => none
  | some .unsafePointer, some (.pointer u), .pointer (some a) =>
    match h.blk a.block, a.spot, sizeOf P u with
    | some b, none, some n => if b.elem = u ∧ n ≠ 0 ∧ b.es = n ∧ a.off % n = 0 ∧ a.off + n ≤ b.cells.length then some x else none
    | _, _, _ => none
  | _, _, _ => none

def boundOf (d : Nat) (most : Nat) : Option Value → Option Nat
  | none => some d
  | some (.int _ i) => if 0 ≤ i ∧ i ≤ most then some i.toNat else none
  | some _ => none

def sliceV (H : Heap) (t : TypeId) (x : Value) (lo hi mx : Option Value) : Option Value :=
  match P.underlying t, x with
  | some .string, .string s =>
    match mx with
    | some _ => none
    | none => do
      let n := (bl s).length
      let h ← boundOf n n hi
      let l ← boundOf 0 h lo
      some (.string ⟨(((bl s).drop l).take (h - l)).toArray⟩)
  | some (.slice e), .slice a len cap => do
    let m ← boundOf cap cap mx
    if mx.isSome && hi.isNone then none else
    let h ← boundOf len m hi
    let l ← boundOf 0 h lo
    let size ← sizeOf P e
    match a with
    | none => some (.slice none (h - l) (m - l))
    | some a =>
      match H.blk a.block with
      | some b => if a.spot.isSome ∨ b.es ≠ size ∨ m < h then none else some (.slice (some ⟨a.block, a.off + l * size, none⟩) (h - l) (m - l))
      | none => none
  | _, _ => none

def fieldAddrV (s : TypeId) (x : Value) (i : Nat) : Option Value :=
  match P.underlying s, x with
  | some (.struct fs), .pointer (some a) =>
    match fs[i]?, a.spot with
    | some f, none => match sizeOf P f.type with
      | some 0 => none
      | some _ => some (.pointer (some ⟨a.block, a.off + f.offset, none⟩))
      | none => none
    | _, _ => none
  | _, _ => none

def indexAddrV (t : TypeId) (x i : Value) : Option Value :=
  match P.underlying t, x, i with
  | some (.slice e), .slice (some a) len _, .int _ i =>
    if a.spot.isNone ∧ 0 ≤ i ∧ i < len then (sizeOf P e).map fun n => .pointer (some ⟨a.block, a.off + i.toNat * n, none⟩) else none
  | some (.array len e), .pointer (some a), .int _ i =>
    if a.spot.isNone ∧ 0 ≤ i ∧ i < len then (sizeOf P e).map fun n => .pointer (some ⟨a.block, a.off + i.toNat * n, none⟩) else none
  | _, _, _ => none

def indexV (t : TypeId) (x i : Value) : Option Value :=
  match P.underlying t, x, i with
  | some .string, .string s, .int _ i => if 0 ≤ i then ((bl s)[i.toNat]?).map fun b => .int .u8 b.toNat else none
  | some (.array len e), .agg cs, .int _ i => if 0 ≤ i ∧ i < len then (sizeOf P e).bind fun n => part P e cs.toList (i.toNat * n) else none
  | _, _, _ => none

def fieldV (t : TypeId) (x : Value) (i : Nat) : Option Value :=
  match P.underlying t, x with
  | some (.struct fs), .agg cs => (fs[i]?).bind fun f => part P f.type cs.toList f.offset
  | _, _ => none

def lenV (t : TypeId) (x : Value) : Option Value :=
  match P.underlying t, x with
  | some .string, .string s => some (goInt (bl s).length)
  | some (.slice _), .slice _ n _ => some (goInt n)
  | some (.array n _), _ => some (goInt n)
  | _, _ => none

def minInts : Value → List Value → Option Value
  | v, [] => some v
  | .int k x, .int k' y :: l => if k = k' then minInts (.int k (if y < x then y else x)) l else none
  | _, _ => none
def maxInts : Value → List Value → Option Value
  | v, [] => some v
  | .int k x, .int k' y :: l => if k = k' then maxInts (.int k (if y > x then y else x)) l else none
  | _, _ => none

def fillL (place : Nat → Option (Nat × Nat)) (cells : List Value) : List (Nat × Value) → Option (List Value)
  | [] => some cells
  | (i, v) :: rest =>
    match place i with
    | none => none
    | some (off, size) =>
      if v.cells.size ≠ size ∨ off + size > cells.length then none else
      match over off cells v.cells.toList with
      | some cells => fillL place cells rest
      | none => none

def placesOf (fs : List Field) : Option (List (Nat × Nat)) := fs.mapM fun f => (P.info? f.type).map fun i => (f.offset, i.size)
def buildV (t : TypeId) (parts : List (Nat × Value)) : Option Value :=
  match zeroOf P t, P.underlying t with
  | some z, some (.struct fs) =>
    match placesOf P fs.toList with
    | some places => (fillL (fun i => places[i]?) z.cells.toList parts).map fun cells => .agg cells.toArray
    | none => none
  | some z, some (.array _ e) =>
    match sizeOf P e with
    | some n => (fillL (fun i => some (i * n, n)) z.cells.toList parts).map fun cells => .agg cells.toArray
    | none => none
  | _, _ => none

def nilV : Value → Option Value
  | .pointer none | .nilIface | .nilFunc => none
  | .func (.method _) _ _ => none
  | x => some x

def sliceDataV : Value → Option Value
  | .slice none _ _ => some (.pointer none)
  | .slice (some a) _ c => if c ≠ 0 ∧ a.spot.isNone then some (.pointer (some a)) else none
  | _ => none

/-- What an operation that only reads yields. -/
def quiet (o : Oper) (ρ : Operand → Value) (h : Heap) : Option Value :=
  match o.op with
  | .move x | .assign x => some (ρ x)
  | .pick c a b => match ρ c with | .bool t => some (if t then ρ a else ρ b) | _ => none
  | .load t a => match ρ a with | .pointer (some a) => loadVar P h t a | _ => none
  | .nilCheck x => nilV (ρ x)
  | .binOp op t x y _ => binV P (Region.isConst x || Region.isConst y) op t (ρ x) (ρ y)
  | .unOp op _ x => unV op (ρ x)
  | .convert src dst x => convV P h src dst (ρ x)
  | .makeInterface t x => match P.underlying t with | some (.interface _) | none => none | some _ => some (.iface t (ρ x))
  | .makeFunc fn first captured => some (.func fn (first.map ρ) (captured.map ρ))
  | .slice t x lo hi mx => sliceV P h t (ρ x) (lo.map ρ) (hi.map ρ) (mx.map ρ)
  | .fieldAddr s x f => fieldAddrV P s (ρ x) f
  | .field t x f => fieldV P t (ρ x) f
  | .indexAddr t x i => indexAddrV P t (ρ x) (ρ i)
  | .index t x i => indexV P t (ρ x) (ρ i)
  | .extract t i => match ρ t with | .tuple vs => vs[i]? | _ => none
  | .build t parts => buildV P t (parts.toList.map fun (i, x) => (i, ρ x))
  | .call { callee := .builtin .len, args, argTypes } =>
    match args.toList, argTypes[0]? with
    | [x], some t => lenV P t (ρ x)
    | _, _ => none
  | .call { callee := .builtin .min, args, .. } => match args.toList.map ρ with | v :: l => minInts v l | [] => none
  | .call { callee := .builtin .max, args, .. } => match args.toList.map ρ with | v :: l => maxInts v l | [] => none
  | .call { callee := .builtin .unsafeSliceData, args, .. } => match args.toList with | [x] => sliceDataV (ρ x) | _ => none
  | _ => none

/-! ### operations that make or turn blocks -/

def zeros (z : List Value) : Nat → List Value
  | 0 => []
  | n + 1 => z ++ zeros z n

def lenOf : Value → Option Nat
  | .slice _ n _ => some n
  | .string s => some (bl s).length
  | _ => none
def firstOf (h : Heap) (size n : Nat) : Value → Option (List Value)
  | .slice (some a) _ _ => if a.spot.isSome then none else h.read a.block a.off (n * size)
  | .slice none _ _ => if n = 0 then some [] else none
  | .string s => some (((bl s).take n).map fun b => .int .u8 b.toNat)
  | _ => none

def appendable : TypeDesc → Bool
  | .slice _ | .string => true
  | _ => false

def appendV (argTypes : Array TypeId) (args : List Value) (h : Heap) : Option (Value × Heap) :=
  match argTypes[0]?, argTypes[1]?, args with
  | some sT, some xT, [.slice base sLen sCap, x] =>
    match P.underlying sT, P.underlying xT with
    | some (.slice e), some xd =>
      if !appendable xd then none else do
        let i ← P.info? e
        let n ← lenOf x
        let new ← firstOf h i.size n x
        let need := sLen + n
        let z ← zeroOf P e
        if i.size = 0 ∨ i.bytes = 0 ∨ i.bytes > 2 ^ 20 ∨ z.cells.size ≠ i.size ∨ new.length ≠ n * i.size ∨ !new.all oneCell then none else
        if need ≤ sCap then
          match base with
          | some a =>
            if a.spot.isSome then none else
            if n = 0 then some (.slice base need sCap, h) else do
            let b ← h.blk a.block
            if b.es ≠ i.size then none else
            let h ← h.write a.block (a.off + sLen * i.size) new
            some (.slice base need sCap, h)
          | none => some (.slice base need sCap, h)
        else if !small need i.size i.bytes then none else
          match base with
          | some a =>
            if a.spot.isSome then none else do
            let b ← h.blk a.block
            if b.es ≠ i.size ∨ b.elem ≠ e then none else
            if a.off + sCap * i.size ≠ b.cells.length then do
              let old ← firstOf h i.size sLen (.slice (some a) sLen sCap)
              let r := h.row (old ++ new) e i.size
              some (.slice (some ⟨r.1, 0, none⟩) need need, r.2)
            else do
              let r ← h.grow a.block a.off (sLen * i.size) new
              some (.slice (some ⟨r.1, 0, none⟩) need need, r.2)
          | none =>
            if sLen ≠ 0 then none else
            let r := h.row new e i.size
            some (.slice (some ⟨r.1, 0, none⟩) need need, r.2)
    | _, _ => none
  | _, _, _ => none

def copyV (argTypes : Array TypeId) (args : List Value) (h : Heap) : Option (Value × Heap) :=
  match argTypes[0]?, args with
  | some dT, [.slice base dLen _, src] =>
    match P.underlying dT with
    | some (.slice e) => do
      let size ← sizeOf P e
      let sn ← lenOf src
      let n := Nat.min sn dLen
      let cells ← firstOf h size n src
      if cells.isEmpty then some (goInt n, h) else
      match base with
      | some a => if a.spot.isSome ∨ !cells.all oneCell then none else do
        let h ← h.write a.block a.off cells
        some (goInt n, h)
      | none => none
    | _ => none
  | _, _ => none

def storeV (t : TypeId) (a v : Value) (h : Heap) : Option Heap :=
  match a with
  | .pointer (some a) => do
    let n ← sizeOf P t
    if a.spot.isSome ∨ v.cells.size ≠ n ∨ n = 0 ∨ !(v.cells.toList.all oneCell) then none else
    h.write a.block a.off v.cells.toList
  | _ => none

/-- A new row of its own: what it holds, and what is told of it, once its number is known. -/
structure New where
  cells : List Value
  elem : TypeId
  es : Nat
  /-- 'none': a pointer to it; else a slice of so many. -/
  len : Option Nat

def New.at (n : New) (x : Nat) : Value :=
  match n.len with
  | none => .pointer (some ⟨x, 0, none⟩)
  | some l => .slice (some ⟨x, 0, none⟩) l l

def newV (t : TypeId) (v : Value) : Option New :=
  match sizeOf P t with
  | some n => if v.cells.size = n ∧ v.cells.toList.all oneCell then some ⟨v.cells.toList, t, n, none⟩ else none
  | none => none

def buildSliceV (t : TypeId) (len : Nat) (parts : List (Nat × Value)) : Option New :=
  match P.underlying t with
  | some (.slice e) =>
    match sizeOf P e, zeroOf P e with
    | some n, some z =>
      if n = 0 ∨ z.cells.size ≠ n ∨ len * n > 2 ^ 24 then none else
      match fillL (fun i => some (i * n, n)) (zeros z.cells.toList len) parts with
      | some cells => some ⟨cells, e, n, some len⟩
      | none => none
    | _, _ => none
  | _ => none

/-- An operation that makes one row, and looks at none. -/
def fresh (o : Oper) (ρ : Operand → Value) : Option New :=
  match o.op with
  | .alloc e => (zeroOf P e).bind (newV P e)
  | .box e x => newV P e (ρ x)
  | .buildSlice t len parts => buildSliceV P t len (parts.toList.map fun (i, x) => (i, ρ x))
  | _ => none
def isFresh (o : Oper) : Bool :=
  match o.op with
  | .alloc _ | .box .. | .buildSlice .. => true
  | _ => false

def makeSliceV (t : TypeId) (l c : Value) (h : Heap) : Option (Value × Heap) :=
  match P.underlying t, l, c with
  | some (.slice e), .int .i64 l, .int .i64 c => do
    let i ← P.info? e
    let z ← zeroOf P e
    if l < 0 ∨ c < l ∨ i.size = 0 ∨ z.cells.size ≠ i.size then none else
    if !small c.toNat i.size i.bytes then none else
    let r := h.row (zeros z.cells.toList c.toNat) e i.size
    some (.slice (some ⟨r.1, 0, none⟩) l.toNat c.toNat, r.2)
  | _, _, _ => none

def strBytes (e : TypeId) (s : ByteArray) (h : Heap) : Option (Value × Heap) := do
  let i ← P.info? e
  if i.size ≠ 1 then none else
  let r := h.row ((bl s).map fun b => .int .u8 b.toNat) e 1
  some (.slice (some ⟨r.1, 0, none⟩) (bl s).length (bl s).length, r.2)

def convE (src dst : TypeId) (x : Value) (h : Heap) : Option (Value × Heap) :=
  match P.underlying src, P.underlying dst, x with
  | some .string, some (.slice e), .string s =>
    match P.underlying e with
    | some (.int .u8) => strBytes P e s h
    | _ => none
  | some (.slice _), some (.slice e), .slice (some a) len cap =>
    match P.underlying e, h.blk a.block with
    | some (.int .u8), some b => if src = dst ∧ cap ≠ 0 ∧ b.ro = false then some (.slice (some a) len cap, h) else none
    | _, _ => none
  | _, _, _ => none

def rangeV (t : TypeId) (x : Value) (h : Heap) : Option (Value × Heap) :=
  match P.underlying t, x with
  | some .string, .string s => some (.pointer (some ⟨h.next, 0, none⟩), h.push (.iter s 0))
  | _, _ => none

def nextV (it : Value) (isString : Bool) (h : Heap) : Option (Value × Heap) :=
  match it, isString with
  | .pointer (some ⟨r, 0, none⟩), true =>
    match h.get r with
    | some (.iter s pos) =>
      if pos < (bl s).length then
        let c := Utf8.decode s pos
        some (.tuple #[.bool true, goInt pos, .int .i32 c.1], h.put r (.iter s (pos + c.2)))
      else some (.tuple #[.bool false], h)
    | _ => none
  | _, _ => none

/-- A text over a row of bytes, which nobody writes to any more. -/
def stringV (argTypes : Array TypeId) (args : List Value) (h : Heap) : Option (Value × Heap) :=
  match argTypes[0]?, args with
  | some pt, [.pointer p, .int _ n] =>
    if n < 0 ∨ n > 2 ^ 40 then none else
    match p with
    | none => if n = 0 then some (.string ByteArray.empty, h) else none
    | some a =>
      if n = 0 then some (.string ByteArray.empty, h) else
      match P.underlying pt, h.blk a.block, a.spot with
      | some (.pointer e), some b, none => do
        if b.elem ≠ e ∨ b.es ≠ 1 ∨ sizeOf P e ≠ some 1 ∨ b.ro = true then none else
        match P.underlying e with
        | some (.int .u8) => do
          let l ← takeN n.toNat (dropN a.off b.cells)
          let s ← bytesOf l
          some (.string ⟨s.toArray⟩, (h.only b.fam a.block).put a.block (.cells { b with ro := true }))
        | _ => none
      | _, _, _ => none
  | _, _ => none

/-- Functions without a Go body. -/
def extern (name : String) (args : List Value) (h : Heap) : Option (Value × Heap) :=
  match name, args with
  | "internal/abi.NoEscape", [x] => some (x, h)
  | _, _ => none

abbrev Caller := FuncId → List Value → Heap → Option (Value × Heap)

def callF (k : Caller) (f : FuncId) (args : List Value) (h : Heap) : Option (Value × Heap) :=
  match P.funcs[f]? with
  | some fn => if fn.body.isSome then k f args h else extern fn.name args h
  | none => none

def callV (k : Caller) (f : Value) (args : List Value) (h : Heap) : Option (Value × Heap) :=
  match f with
  | .func (.func f) first captured => callF P k f (first.toList ++ args ++ captured.toList) h
  | _ => none

/-- What an operation that makes or turns blocks yields. -/
def effect (k : Caller) (o : Oper) (ρ : Operand → Value) (h : Heap) : Option (Value × Heap) :=
  match o.op with
  | .makeSlice t l c => makeSliceV P t (ρ l) (ρ c) h
  | .store t a v => (storeV P t (ρ a) (ρ v) h).map fun h => (undef, h)
  | .convert src dst x => convE P src dst (ρ x) h
  | .range t x => rangeV P t (ρ x) h
  | .next it s => nextV (ρ it) s h
  | .call { callee := .builtin .append, args, argTypes } => appendV P argTypes (args.toList.map ρ) h
  | .call { callee := .builtin .copy, args, argTypes } => copyV P argTypes (args.toList.map ρ) h
  | .call { callee := .builtin .unsafeString, args, argTypes } => stringV P argTypes (args.toList.map ρ) h
  | .call { callee := .value f, args, .. } => callV P k (ρ f) (args.toList.map ρ) h
  | _ => none

/-- Does it leave the heap alone? -/
def isQuiet (o : Oper) : Bool :=
  match o.op with
  | .move _ | .assign _ | .pick .. | .load .. | .nilCheck _ | .binOp .. | .unOp .. | .makeInterface .. | .makeFunc .. | .slice .. | .fieldAddr .. | .field .. | .indexAddr .. | .index .. | .extract .. | .build .. => true
  | .convert _ dst _ => (match P.underlying dst with | some (.slice _) => false | _ => true)
  | .call { callee := .builtin .len, .. } | .call { callee := .builtin .min, .. } | .call { callee := .builtin .max, .. } | .call { callee := .builtin .unsafeSliceData, .. } => true
  | _ => false
/-- Does it look at the heap? -/
def looks (o : Oper) : Bool :=
  match o.op with
  | .load .. | .convert .. | .slice .. => true
  | _ => false

def opEval (k : Caller) (o : Oper) (ρ : Operand → Value) (h : Heap) : Option (Value × Heap) :=
  if isQuiet P o then (quiet P o ρ h).map fun v => (v, h)
  else if isFresh o then (fresh P o ρ).map fun n => (n.at h.next, (h.row n.cells n.elem n.es).2)
  else effect P k o ρ h

def putT (tm : Tm) (d : Option Tmp) (v : Value) : Tm :=
  match d with
  | some d => setT tm d v
  | none => tm

def guardVal (tm : Tm) (d : Option Tmp) : Option Bool :=
  match d with
  | some d => match getT tm d with | .bool b => some b | _ => none
  | none => none
def wantedT (ops : Array Oper) (o : Oper) (tm : Tm) : Bool :=
  match o.guard with
  | none => true
  | some (j, want) => guardVal tm ((ops[j]?).bind (·.dst)) == some want

/-- The operations one behind the other; what each yielded, the heap ahead of each that is carried out and makes or turns blocks. -/
def runOps (k : Caller) (ops : Array Oper) : List Oper → Tm → Heap → Option (Tm × Heap)
  | [], tm, h => some (tm, h)
  | o :: l, tm, h =>
    if wantedT ops o tm then
      match opEval P k o (ev tm) h with
      | some (v, h) => runOps k ops l (putT tm o.dst v) h
      | none => none
    else runOps k ops l (putT tm o.dst undef) h

/-! ### a region whose order is open: one order is gone through, and what must hold that every other one comes to the same is looked at -/
def edgesOf (o : Oper) : List Nat := (o.after.toList.filter (Region.binds .any)).map (·.on)
/-- Must 'i' come ahead of 'j'? -/
def ahead (ops : Array Oper) : Nat → Nat → Nat → Bool
  | 0, _, _ => false
  | f + 1, i, j =>
    match ops[j]? with
    | none => false
    | some o => (edgesOf o).any fun e => Nat.beq e i || ahead ops f i e

def okPair (ops : Array Oper) (i : Nat) (oi : Oper) (j : Nat) (oj : Oper) : Bool :=
  ahead ops ops.size i j || (oi.apart ops oj && (isQuiet P oi || isQuiet P oj || isFresh oi || isFresh oj))
/-- Pairs with the operations ahead of 'j', from 'i' on. -/
def okBehind (ops : Array Oper) (j : Nat) (oj : Oper) : Nat → List Oper → Bool
  | _, [] => true
  | i, oi :: l => if i < j then okPair P ops i oi j oj && okBehind ops j oj (i + 1) l else true
def okAll (ops : Array Oper) : Nat → List Oper → Bool
  | _, [] => true
  | j, oj :: l => ((edgesOf oj).all fun e => Nat.blt e j) && okBehind P ops j oj 0 ops.toList && okAll ops (j + 1) l
def okOrder (ops : Array Oper) : Bool := okAll P ops 0 ops.toList

def same0 : Value → Value → Bool
  | .bool a, .bool b => a == b
  | .int k a, .int l b => k == l && a == b
  | .string a, .string b => bl a == bl b
  | .pointer a, .pointer b => a == b
  | .slice a l c, .slice b m d => a == b && Nat.beq l m && Nat.beq c d
  | .nilFunc, .nilFunc | .nilIface, .nilIface => true
  | .map a, .map b => a == b
  | .func (.func f) a b, .func (.func g) c d => Nat.beq f g && a.isEmpty && b.isEmpty && c.isEmpty && d.isEmpty
  | _, _ => false
def sameL : List Value → List Value → Bool
  | [], [] => true
  | a :: l, b :: m => same0 a b && sameL l m
  | _, _ => false
def sameV : Value → Value → Bool
  | .agg a, .agg b => sameL a.toList b.toList
  | a, b => same0 a b

/-- What was looked at: by which operation, in which frame, with what answer. -/
structure Seen where
  i : Nat
  o : Oper
  tm : Tm
  v : Value

structure Ran where
  tm : Tm
  h : Heap
  /-- Rows that are made, and not laid yet: by which operation. -/
  pend : List (Nat × New)
  seen : List Seen
  /-- The heap ahead of each operation that may turn it, with its number; the last first. -/
  effs : List (Nat × Heap)

def Heap.lay (h : Heap) (x : Nat) (n : New) : Heap :=
  (h.put x (.cells ⟨n.cells, n.elem, n.es, x, false⟩)).setMembers x (x :: h.members x)
def Heap.layAll (h : Heap) (base : Nat) : List (Nat × New) → Heap
  | [] => h
  | (i, n) :: l => Heap.layAll (h.lay (base + i) n) base l

def stepIdx (k : Caller) (ops : Array Oper) (base i : Nat) (o : Oper) (r : Ran) : Option Ran :=
  if wantedT ops o r.tm then
    if isQuiet P o then
      match quiet P o (ev r.tm) r.h with
      | some v => some { r with tm := putT r.tm o.dst v, seen := if looks o then ⟨i, o, r.tm, v⟩ :: r.seen else r.seen }
      | none => none
    else if isFresh o then
      match fresh P o (ev r.tm) with
      | some n => some { r with tm := putT r.tm o.dst (n.at (base + i)), pend := (i, n) :: r.pend }
      | none => none
    else
      match effect P k o (ev r.tm) (r.h.layAll base (r.pend.filter fun x => ahead ops ops.size x.1 i)) with
      | some (v, h') => some { r with tm := putT r.tm o.dst v, h := h', pend := r.pend.filter fun x => !ahead ops ops.size x.1 i, effs := (i, r.h) :: r.effs }
      | none => none
  else some { r with tm := putT r.tm o.dst undef }

def runIdx (k : Caller) (ops : Array Oper) (base : Nat) : Nat → List Oper → Ran → Option Ran
  | _, [], r => some r
  | i, o :: l, r =>
    match stepIdx P k ops base i o r with
    | some r => runIdx k ops base (i + 1) l r
    | none => none

/-- An answer holds at each heap that there may be when it is asked for. 'behind': the heap behind the effects from here on; 'l': the effects, the last first. -/
def holdsAt (ops : Array Oper) (x : Seen) : Heap → List (Nat × Heap) → Bool
  | behind, [] => holds1 behind
  | behind, (j, h) :: l =>
    -- at 'behind' all of these effects are done: so may it be, if none of them must come behind x
    (ahead ops ops.size x.i j || holds1 behind) && (ahead ops ops.size j x.i || holdsAt ops x h l)
where holds1 (h : Heap) : Bool := match quiet P x.o (ev x.tm) h with | some v => sameV v x.v | none => false

def runDrawn (k : Caller) (ops : Array Oper) (tm : Tm) (h : Heap) : Option (Tm × Heap) :=
  if okOrder P ops then
    match runIdx P k ops h.next 0 ops.toList ⟨tm, { h with next := h.next + ops.size }, [], [], []⟩ with
    | some r => if r.effs.isEmpty || r.seen.all (fun x => holdsAt P ops x r.h r.effs) then some (r.tm, r.h.layAll h.next r.pend) else none
    | none => none
  else none

inductive AExit where
  | normal
  | exit (id : Nat)
  | ret

structure St where
  tm : Tm
  h : Heap

/-- What a call has yielded, at its end. -/
def resOf (s : St) : ResultVar → Option Value
  | .tmp t => some (getT s.tm t)
  | .cell a t => match getT s.tm a with | .pointer (some a) => loadVar P s.h t a | _ => none
def endOf (fn : Func) (s : St) : Option (Value × Heap) :=
  match fn.results.toList.mapM (resOf P s) with
  | some [v] => some (v, s.h)
  | some vs => some (.tuple vs.toArray, s.h)
  | none => none
def callBody (run : Code → St → Option (AExit × St)) : Caller := fun f args h =>
  match P.funcs[f]? with
  | none => none
  | some fn =>
    match fn.body with
    | none => none
    | some c =>
      match run c ⟨args ++ List.replicate (fn.ntmps - args.length) undef, h⟩ with
      | some (.normal, s) => endOf P fn s
      | some (.ret, s) => endOf P fn s
      | _ => none

/-- What is known of calls beforehand goes ahead of what their code does. -/
def withS (S k : Caller) : Caller := fun f args h => match S f args h with | some r => some r | none => k f args h

def exec (S : Caller) : Nat → Code → St → Option (AExit × St)
  | 0, _, _ => none
  | n + 1, c, s =>
    match c with
    | .skip => some (.normal, s)
    | .label _ => some (.normal, s)
    | .seq a b =>
      match exec S n a s with
      | some (.normal, s) => exec S n b s
      | r => r
    | .cond c a b =>
      match ev s.tm c with
      | .bool true => exec S n a s
      | .bool false => exec S n b s
      | _ => none
    | .block id c =>
      match exec S n c s with
      | some (.exit i, s) => some (bif Nat.beq i id then .normal else .exit i, s)
      | r => r
    | .loop c =>
      match exec S n c s with
      | some (.normal, s) => exec S n (.loop c) s
      | r => r
    | .scope c => exec S n c s
    | .exit id => some (.exit id, s)
    | .ret => some (.ret, s)
    | .region _ ops draw =>
      if opsOk P ops then
        match (if draw then runDrawn P (withS S (callBody P (exec S n))) ops s.tm s.h else runOps P (withS S (callBody P (exec S n))) ops ops.toList s.tm s.h) with
        | some (tm, h) => some (.normal, ⟨tm, h⟩)
        | none => none
      else none
    | _ => none

end
end Go.AX
