/-
 A machine of values for Go's model: slices, pointers and structs with their contents, appends in place, no choices of the tape. Definitions only; that the model does what it does is shown in the texts behind this one.
 The machine of values: what one operation does, but for calls.
 The machine of values: regions, calls, rounds of a range over a function, code.
 The machine of values: what it means that a value of it stands for a value of the model.
 The machine of values: levels, flat values, the relation between the heap of values and the world.
 The machine of values: the heap of values against the world; what a new block, a draw, a store do to it.
 The machine of values: the operations that neither read nor write memory do what the model does.
 The machine of values: equality, building, slicing, places: what they give is what the model gives.
 The machine of values: operators, building, slicing, places: what they give is what the model gives.
 The machine of values: building, slicing, places, lengths: what they give is what the model gives.
 The machine of values: slicing, places, lengths, conversions of numbers.
 The machine of values: places, lengths, checks, assertions.
 The machine of values: reading the heap.
 The machine of values: new blocks.
-/
import Derived.RangeFuncIn
import Derived.RangeFuncRecord
import Derived.Orders
import Derived.Laws.Sem
import Derived.Laws.World
import Derived.Control
import Derived.Laws.StructEq
import Derived.ChangeKeysEq
import Derived.Laws.AppendOwn
import Derived.Laws.CopyRow
import Derived.Laws.BytesString
import Derived.Laws.MakeOwn
set_option maxHeartbeats 800000
set_option linter.unusedSimpArgs false
set_option linter.unusedVariables false
section
namespace Go.Sim
open Go
inductive V where
 | bool (b : Bool)
 | int (k : IntKind) (n : Int)
 | float (k : FloatKind) (bits : Nat)
 | str (s : List UInt8)
 | nilptr
 | pref (d j off ep : Nat)
 | pcon (cells : List V) (off : Nat)
 | nilslice
 | sref (d j off len ep : Nat) (q : Nat × Bool)
 | scon (cells : List V) (off len : Nat) (full : Bool)
 | func (fn : Fn) (first captured : List V)
 | nilfunc
 | iface (t : TypeId) (v : V)
 | niliface
 | agg (cells : List V)
 | tuple (vs : List V)
 | mref (d j : Nat)
 | nilmap
 | yield (d j : Nat)
 | poison
 deriving Inhabited
inductive Blk where
 | row (cells : List V) (ep esz : Nat) (flat plain : Bool)
 | loop (fn : FuncId) (tmps : List V) (params : List Tmp) (assign body : Code) (ready : Bool) (pend : Option Code)
 | dead
 | mp (es : List (V × V))
 | it (m : Option (Nat × Nat)) (since : Nat) (seen : List Nat) (last : Nat)
 deriving Inhabited
abbrev Heap := List (List Blk)
def V.undef : V := .tuple []
def V.cell1 : V → Bool
 | .poison | .agg _ | .tuple _ => false
 | _ => true
def okCells (vs : List V) : Bool := vs.all V.cell1
def V.cells : V → List V
 | .agg cs => cs
 | v => [v]
mutual
def V.up (n : Nat) : V → V
 | .pref d j o e => .pref (d + n) j o e
 | .sref d j o l e f => .sref (d + n) j o l e f
 | .mref d j => .mref (d + n) j
 | .yield d j => .yield (d + n) j
 | .func fn a b => .func fn (V.upL n a) (V.upL n b)
 | .iface t v => .iface t (V.up n v)
 | .agg cs => .agg (V.upL n cs)
 | .tuple vs => .tuple (V.upL n vs)
 | v => v
def V.upL (n : Nat) : List V → List V
 | [] => []
 | v :: r => V.up n v :: V.upL n r
end
mutual
def V.flat : V → Bool
 | .pref .. | .sref .. | .mref .. | .yield .. | .poison => false
 | .func _ a b => V.flatL a && V.flatL b
 | .iface _ v => V.flat v
 | .agg cs => V.flatL cs
 | .tuple vs => V.flatL vs
 | _ => true
def V.flatL : List V → Bool
 | [] => true
 | v :: r => V.flat v && V.flatL r
end
/- Neither a reference nor a content: numbers, strings, nils and what is made of them. -/
mutual
def V.plain : V → Bool
 | .pref .. | .sref .. | .mref .. | .yield .. | .poison | .pcon .. | .scon .. => false
 | .func _ a b => V.plainL a && V.plainL b
 | .iface _ v => V.plain v
 | .agg cs => V.plainL cs
 | .tuple vs => V.plainL vs
 | _ => true
def V.plainL : List V → Bool
 | [] => true
 | v :: r => V.plain v && V.plainL r
end
/- One level down, by n levels; a reference into a level that goes away is none. -/
mutual
def V.down (n : Nat) : V → Option V
 | .pref d j o e => if n ≤ d then some (.pref (d - n) j o e) else none
 | .sref d j o l e f => if n ≤ d then some (.sref (d - n) j o l e f) else none
 | .mref d j => if n ≤ d then some (.mref (d - n) j) else none
 | .yield d j => if n ≤ d then some (.yield (d - n) j) else none
 | .func fn a b => (V.downL n a).bind fun a' => (V.downL n b).bind fun b' => some (.func fn a' b')
 | .iface t v => (V.down n v).bind fun v' => some (.iface t v')
 | .agg cs => (V.downL n cs).bind fun cs' => some (.agg cs')
 | .tuple vs => (V.downL n vs).bind fun vs' => some (.tuple vs')
 | v => some v
def V.downL (n : Nat) : List V → Option (List V)
 | [] => some []
 | v :: r => (V.down n v).bind fun v' => (V.downL n r).bind fun r' => some (v' :: r')
end
def Heap.get (h : Heap) (d j : Nat) : Option Blk := (h[d]?).bind (·[j]?)
def Heap.set (h : Heap) (d j : Nat) (b : Blk) : Heap := List.set h d ((h[d]?.getD []).set j b)
def Heap.top (h : Heap) : List Blk := h[0]?.getD []
def Heap.setTop (h : Heap) (l : List Blk) : Heap := List.set h 0 l
def Heap.push (h : Heap) (b : Blk) : Heap := h.setTop (h.top ++ [b])
def loadN (cells : List V) (off : Nat) : Nat → Option (List V)
 | 0 => some []
 | n + 1 => (cells[off]?).bind fun v => (loadN cells (off + 1) n).bind fun r => some (v :: r)
def storeN (cells : List V) (off : Nat) : List V → List V
 | [] => cells
 | v :: r => storeN (cells.set off v) (off + 1) r
def V.upIf (flat : Bool) (d : Nat) (vs : List V) : List V := if flat then vs else if d = 0 then vs else V.upL d vs
def Heap.load (h : Heap) (a : V) (n : Nat) : Option (List V) :=
 match a with
 | .pref d j off ep =>
  match h.get d j with
  | some (.row cells ep' _ flat _) => if ep = ep' then (loadN cells off n).map (V.upIf flat d) else none
  | _ => none
 | .pcon cells off => loadN cells off n
 | _ => none
def Heap.sliceCells (h : Heap) (s : V) (esz : Nat) (n : Nat) : Option (List V) :=
 match s with
 | .nilslice => if n = 0 then some [] else none
 | .sref d j off len ep _ =>
  match h.get d j with
  | some (.row cells ep' _ flat _) =>
   if ep = ep' ∧ n ≤ len ∧ off + n * esz ≤ cells.length then some (V.upIf flat d ((cells.drop off).take (n * esz))) else none
  | _ => none
 | .scon cells off len _ => if n ≤ len ∧ off + n * esz ≤ cells.length then some ((cells.drop off).take (n * esz)) else none
 | _ => none
def Heap.store (h : Heap) (a : V) (vs : List V) : Option Heap :=
 match a with
 | .pref d j off ep =>
  match h.get d j with
  | some (.row cells ep' esz flat plain) =>
   if ep = ep' ∧ off + vs.length ≤ cells.length ∧ okCells vs ∧ esz < 4294967296 then
    (if d = 0 then some vs else V.downL d vs).bind fun vs' => some (h.set d j (.row (storeN cells off vs') ep esz (flat && V.flatL vs') (plain && V.plainL vs')))
   else none
  | _ => none
 | _ => none
def optMap (f : V → Option V) : List V → Option (List V)
 | [] => some []
 | v :: r => (f v).bind fun v' => (optMap f r).bind fun r' => some (v' :: r')
def cutCells (cells : List V) (off len k : Nat) : List V := if k = 0 then cells.drop off else (cells.drop off).take (len * k)
def V.view : Nat → Heap → V → Option V
 | 0, _, _ => none
 | fuel + 1, h, v =>
  match v with
  | .pref d j off ep =>
   match h.get d j with
   | some (.row cells ep' _ flat _) => if ep = ep' then (if flat then some cells else optMap (V.view fuel (h.drop d)) cells).bind fun cs => some (.pcon cs off) else none
   | _ => none
  | .sref d j off len ep q =>
   match h.get d j with
   | some (.row cells ep' _ flat _) => if ep = ep' then (if flat then some cells else optMap (V.view fuel (h.drop d)) cells).bind fun cs => some (.scon (cutCells cs off len q.1) 0 len q.2) else none
   | _ => none
  | .mref .. | .yield .. | .poison => none
  | .func fn a b => (optMap (V.view fuel h) a).bind fun a' => (optMap (V.view fuel h) b).bind fun b' => some (.func fn a' b')
  | .iface t v => (V.view fuel h v).bind fun v' => some (.iface t v')
  | .agg cs => (optMap (V.view fuel h) cs).bind fun cs' => some (.agg cs')
  | .tuple vs => (optMap (V.view fuel h) vs).bind fun vs' => some (.tuple vs')
  | v => some v
end Go.Sim
end
section
namespace Go.Sim
open Go
inductive Hint where
 | forget (slot : Nat)
 | canon (slot : Nat)
 | promote (slot esz : Nat)
 | promoteBox (slot off esz : Nat)
 | promoteAll (slot off esz : Nat)
 | loose (slot : Nat)
 | fork (slot : Nat)
 deriving Inhabited
inductive Mode where
 | pure | own | heap | live | inl
 deriving Inhabited
structure Env where
 P : Program
 mode : FuncId → Mode := fun _ => .pure
 hint : FuncId → Nat → List Hint := fun _ _ => []
 known : FuncId → Option (List V → Heap → Option (V × Heap)) := fun _ => none
 eqTypes : List TypeId := []
 fns : FuncId → Bool := fun _ => true
 frame : FuncId → Bool := fun _ => false
structure St where
 fn : FuncId
 tmps : List V
 heap : Heap
 deriving Inhabited
def ofSimple : Value → Option V
 | .bool b => some (.bool b)
 | .int k n => some (.int k n)
 | .float k b => some (.float k b)
 | .string s => some (.str s.data.toList)
 | .pointer none => some .nilptr
 | .slice none 0 0 => some .nilslice
 | .map none => some .nilmap
 | .nilFunc => some .nilfunc
 | .nilIface => some .niliface
 | _ => none
def ofSimpleL : List Value → Option (List V)
 | [] => some []
 | v :: r => (ofSimple v).bind fun v' => (ofSimpleL r).bind fun r' => some (v' :: r')
def ofValue : Value → Option V
 | .agg cs => (ofSimpleL cs.toList).map .agg
 | .iface t v => (ofSimple v).map (.iface t)
 | .func (.func f) first captured => if first.isEmpty && captured.isEmpty then some (.func (.func f) [] []) else none
 | v => ofSimple v
def evalT (tmps : List V) : Operand → V
 | .tmp t => tmps.getD t .poison
 | .const v => (ofValue v).getD .poison
 | .global _ => .poison
 | .func f => .func (.func f) [] []
section
variable (P : Program)
def isAggV (t : TypeId) : Option Bool :=
 match P.underlying t with
 | some (.struct _) | some (.array _ _) => some true
 | some _ => some false
 | none => none
def sizeV (t : TypeId) : Option Nat := (P.info? t).map (·.size)
def bytesV (t : TypeId) : Option Nat := (P.info? t).map (·.bytes)
def zeroV (t : TypeId) : Option V := ((P.info? t).bind (·.zero)).bind ofValue
def partV (t : TypeId) (cs : List V) (off : Nat) : Option V :=
 (isAggV P t).bind fun g => if g then (sizeV P t).bind fun n => (loadN cs off n).map .agg else cs[off]?
end
def bitsV (op : BinOp) (k : IntKind) (x y : Int) : Option Int :=
 let a := BitVec.ofInt k.bits x
 let b := BitVec.ofInt k.bits y
 match op with
 | .and => some (k.wrap (a &&& b).toNat)
 | .or => some (k.wrap (a ||| b).toNat)
 | .xor => some (k.wrap (a ^^^ b).toNat)
 | .andNot => some (k.wrap (a &&& ~~~b).toNat)
 | _ => none
def intV (op : BinOp) (k : IntKind) (x y : Int) : Option V :=
 match op with
 | .add => some (.int k (k.wrap (x + y)))
 | .sub => some (.int k (k.wrap (x - y)))
 | .mul => some (.int k (k.wrap (x * y)))
 | .quo => if y = 0 then none else some (.int k (k.wrap (x.tdiv y)))
 | .rem => if y = 0 then none else some (.int k (x.tmod y))
 | .and | .or | .xor | .andNot => (bitsV op k x y).map (.int k)
 | .eql => some (.bool (x == y))
 | .neq => some (.bool (x != y))
 | .lss => some (.bool (x < y))
 | .leq => some (.bool (x ≤ y))
 | .gtr => some (.bool (x > y))
 | .geq => some (.bool (x ≥ y))
 | _ => none
def shiftV (op : BinOp) (k : IntKind) (x y : Int) : Option V :=
 if y < 0 then none else
 match op with
 | .shl => some (.int k (k.wrap (x * 2 ^ min y.toNat k.bits)))
 | .shr => some (.int k (x.fdiv (2 ^ min y.toNat k.bits)))
 | _ => none
def strV (op : BinOp) (x y : List UInt8) : Option V :=
 match op with
 | .add => if x.length + y.length ≤ 2 ^ 62 then some (.str (x ++ y)) else none
 | .eql => some (.bool (x == y))
 | .neq => some (.bool !(x == y))
 | .lss => some (.bool (Op.bytesLess x y))
 | .leq => some (.bool (Op.bytesLess x y || x == y))
 | .gtr => some (.bool !(Op.bytesLess x y || x == y))
 | .geq => some (.bool !(Op.bytesLess x y))
 | _ => none
def eqItemsV (P : Program) (e : TypeId) (k : Nat) (xs ys : List V) : List Nat → Option Bool
 | [] => some true
 | i :: is => (partV P e xs (i * k)).bind fun a => (partV P e ys (i * k)).bind fun b =>
  match a, b with
  | .int k1 x, .int k2 y => if k1 = k2 then (if x = y then eqItemsV P e k xs ys is else some false) else none
  | _, _ => none
def eqArrV (P : Program) (n : Nat) (e : TypeId) (xs ys : List V) : Option Bool :=
 match P.underlying e, sizeV P e with
 | some (.int _), some _ => eqItemsV P e (P.cellsOf e) xs ys (List.range n)
 | _, _ => none
mutual
def eqV (E : Env) (fuel : Nat) (t : TypeId) (x y : V) : Option Bool :=
 match fuel with
 | 0 => none
 | fuel + 1 =>
  match E.P.underlying t, x, y with
  | some .bool, .bool a, .bool b => some (a == b)
  | some (.int _), .int k a, .int k' b => if k = k' then some (a == b) else none
  | some .string, .str a, .str b => some (a == b)
  | some (.pointer _), .nilptr, .nilptr => some true
  | some (.pointer _), .nilptr, .pref .. | some (.pointer _), .nilptr, .pcon .. | some (.pointer _), .pref .., .nilptr | some (.pointer _), .pcon .., .nilptr => some false
  | some (.slice _), .nilslice, .nilslice => some true
  | some (.slice _), .nilslice, .scon _ _ (_ + 1) _ | some (.slice _), .scon _ _ (_ + 1) _, .nilslice
  | some (.slice _), .nilslice, .sref _ _ _ (_ + 1) _ _ | some (.slice _), .sref _ _ _ (_ + 1) _ _, .nilslice => some false
  | some (.slice _), .nilslice, .sref _ _ _ _ (_ + 1) _ | some (.slice _), .sref _ _ _ _ (_ + 1) _, .nilslice => some false
  | some (.map _ _), .nilmap, .nilmap => some true
  | some (.map _ _), .nilmap, .mref .. | some (.map _ _), .mref .., .nilmap => some false
  | some (.func ..), .nilfunc, .nilfunc => some true
  | some (.func ..), .nilfunc, .func .. | some (.func ..), .func .., .nilfunc => some false
  | some (.interface _), .niliface, .niliface => some true
  | some (.interface _), .niliface, .iface .. | some (.interface _), .iface .., .niliface => some false
  | some (.interface _), .iface tx vx, .iface ty vy =>
   if tx = ty then (match E.P.info? tx with | some i => if i.comparable then eqV E fuel tx vx vy else none | none => none) else some false
  | some (.struct fields), .agg xs, .agg ys => if E.eqTypes.contains t then eqFields E fuel fields.toList xs ys else none
  | some (.array n e), .agg xs, .agg ys => if E.eqTypes.contains t && decide (fuel ≠ 0) then eqArrV E.P n e xs ys else none
  | _, _, _ => none
def eqFields (E : Env) (fuel : Nat) (fs : List Field) (xs ys : List V) : Option Bool :=
 match fuel with
 | 0 => none
 | fuel + 1 =>
  match fs with
  | [] => some true
  | f :: r =>
   if f.name == "_" then none else
   (partV E.P f.type xs f.offset).bind fun a => (partV E.P f.type ys f.offset).bind fun b =>
   (eqV E fuel f.type a b).bind fun c => if c then eqFields E fuel r xs ys else some false
end
def binV (E : Env) (op : BinOp) (t : TypeId) (x y : V) : Option V :=
 match op, x, y with
 | .shl, .int k a, .int _ b => shiftV .shl k a b
 | .shr, .int k a, .int _ b => shiftV .shr k a b
 | op, .int k a, .int k' b => if k = k' then intV op k a b else none
 | op, .str a, .str b => strV op a b
 | .eql, x, y => (eqV E 200 t x y).map .bool
 | .neq, x, y => (eqV E 200 t x y).map fun c => .bool !c
 | _, _, _ => none
def isC : Operand → Bool
 | .const _ => true
 | _ => false
def binO (E : Env) (op : BinOp) (t : TypeId) (x y : Operand) (a b : V) : Option V :=
 match a, b with
 | .niliface, .niliface => if isC x || isC y then binV E op t .niliface .niliface else none
 | a, b => binV E op t a b
def unV (op : UnOp) (x : V) : Option V :=
 match op, x with
 | .neg, .int k n => some (.int k (k.wrap (0 - n)))
 | .xor, .int k n => (bitsV .xor k (if k.signed then -1 else k.max) n).map (.int k)
 | .not, .bool b => some (.bool !b)
 | _, _ => none
def fillV (place : Nat → Option (Nat × Nat)) (cells : List V) : List (Nat × V) → Option (List V)
 | [] => some cells
 | (i, v) :: rest =>
  match place i with
  | none => none
  | some (off, size) => if v.cells.length = size ∧ off + size ≤ cells.length ∧ okCells v.cells then fillV place (storeN cells off v.cells) rest else none
def placesV (P : Program) : List Field → Option (List (Nat × Nat))
 | [] => some []
 | f :: r => (sizeV P f.type).bind fun n => (placesV P r).bind fun l => some ((f.offset, n) :: l)
def buildV (P : Program) (t : TypeId) (parts : List (Nat × V)) : Option V :=
 (zeroV P t).bind fun z =>
 match P.underlying t with
 | some (.struct fields) => (placesV P fields.toList).bind fun pl => (fillV (fun i => pl[i]?) z.cells parts).map .agg
 | some (.array _ elem) => (sizeV P elem).bind fun n => (fillV (fun i => some (i * n, n)) z.cells parts).map .agg
 | _ => none
def rep (z : List V) (n : Nat) : List V :=
 match z with
 | [v] => List.replicate n v
 | z => (List.replicate n z).flatten
def newRow (h : Heap) (cells : List V) (esz : Nat) : Nat × Heap := (h.top.length, h.push (.row cells 0 esz (V.flatL cells) (V.plainL cells)))
def byteOf : V → UInt8
 | .int _ n => UInt8.ofNat n.toNat
 | _ => 0
def isByte : V → Bool
 | .int .u8 _ => true
 | _ => false
def u8 (b : UInt8) : V := .int .u8 b.toNat
def lenV : V → Option Nat
 | .nilslice => some 0
 | .sref _ _ _ l _ _ => some l
 | .scon _ _ l _ => some l
 | .str s => some s.length
 | _ => none
def boundV (v : V) (y : Nat) : Option Nat :=
 match v with
 | .int _ i => if 0 ≤ i ∧ i ≤ y then some i.toNat else none
 | _ => none
def boundsV (len : Nat) (lo hi mx : Option V) : Option (Nat × Nat × Option Nat) :=
 (match mx with | some v => (boundV v len).map some | none => some none).bind fun m =>
 (match hi with | some v => boundV v (m.getD len) | none => (match m with | none => some len | some _ => none)).bind fun h =>
 (match lo with | some v => boundV v h | none => some 0).bind fun l => some (l, h, m)
def sliceV (P : Program) (t : TypeId) (x : V) (lo hi mx : Option V) : Option V :=
 match P.underlying t, x with
 | some .string, .str s => (match mx with | some _ => none | none => boundsV s.length lo hi none).bind fun (l, h, _) => some (.str ((s.take h).drop l))
 | some (.slice elem), .nilslice => (boundsV 0 lo hi mx).bind fun _ => (sizeV P elem).bind fun _ => some .nilslice
 | some (.slice elem), .sref d j off len ep q => (boundsV len lo hi mx).bind fun (l, h, m) => (sizeV P elem).bind fun n =>
   if q.1 = n ∨ q.1 = 0 then some (.sref d j (off + l * n) (h - l) ep (q.1, match m with | some m => m == h | none => q.2 && h == len)) else none
 | some (.slice elem), .scon cells off len full => (boundsV len lo hi mx).bind fun (l, h, m) => (sizeV P elem).bind fun n =>
   some (.scon (cutCells cells (off + l * n) (h - l) n) 0 (h - l) (match m with | some m => m == h | none => full && h == len))
 | some (.array n elem), .pref d j off ep => (boundsV n lo hi mx).bind fun (l, h, m) => (sizeV P elem).bind fun k =>
   some (.sref d j (off + l * k) (h - l) ep (0, m.getD n == h))
 | some (.array n elem), .pcon cells off => (boundsV n lo hi mx).bind fun (l, h, m) => (sizeV P elem).bind fun k =>
   some (.scon (cutCells cells (off + l * k) (h - l) k) 0 (h - l) (m.getD n == h))
 | _, _ => none
def indexAddrV (P : Program) (t : TypeId) (x i : V) : Option V :=
 match i with
 | .int _ n =>
  match P.underlying t, x with
  | some (.slice elem), .sref d j off len ep _ => if 0 ≤ n ∧ n < len then (sizeV P elem).bind fun k => some (.pref d j (off + n.toNat * k) ep) else none
  | some (.slice elem), .scon cells off len _ => if 0 ≤ n ∧ n < len then (sizeV P elem).bind fun k => some (.pcon cells (off + n.toNat * k)) else none
  | some (.array len elem), .pref d j off ep => if 0 ≤ n ∧ n < len then (sizeV P elem).bind fun k => some (.pref d j (off + n.toNat * k) ep) else none
  | some (.array len elem), .pcon cells off => if 0 ≤ n ∧ n < len then (sizeV P elem).bind fun k => some (.pcon cells (off + n.toNat * k)) else none
  | _, _ => none
 | _ => none
def indexV (P : Program) (t : TypeId) (x i : V) : Option V :=
 match i with
 | .int _ n =>
  match P.underlying t, x with
  | some (.array len elem), .agg cs => if 0 ≤ n ∧ n < len then (sizeV P elem).bind fun k => partV P elem cs (n.toNat * k) else none
  | some .string, .str s => if 0 ≤ n then (s[n.toNat]?).map u8 else none
  | _, _ => none
 | _ => none
def fieldAddrV (P : Program) (t : TypeId) (x : V) (f : Nat) : Option V :=
 match P.underlying t with
 | some (.struct fields) => (fields[f]?).bind fun fd => (sizeV P fd.type).bind fun n => if n = 0 then none else
  match x with
  | .pref d j off ep => some (.pref d j (off + fd.offset) ep)
  | .pcon cells off => some (.pcon cells (off + fd.offset))
  | _ => none
 | _ => none
def fieldV (P : Program) (t : TypeId) (x : V) (f : Nat) : Option V :=
 match P.underlying t, x with
 | some (.struct fields), .agg cs => (fields[f]?).bind fun fd => partV P fd.type cs fd.offset
 | _, _ => none
def loadV (P : Program) (h : Heap) (t : TypeId) (a : V) : Option V :=
 (isAggV P t).bind fun g => if g then (sizeV P t).bind fun n => (h.load a n).map .agg else (h.load a 1).bind fun l => l[0]?
def storeV (P : Program) (h : Heap) (t : TypeId) (a x : V) : Option Heap :=
 (sizeV P t).bind fun n => if x.cells.length = n then h.store a x.cells else none
def convertV (P : Program) (h : Heap) (src dst : TypeId) (x : V) : Option (V × Heap) :=
 match P.underlying src, P.underlying dst, x with
 | some _, some (.int k), .int _ n => some (.int k (k.wrap n), h)
 | some _, some .string, .str s => some (.str s, h)
 | some _, some (.slice e), .str s =>
  match P.underlying e with
  | some (.int .u8) => some (.sref 0 h.top.length 0 s.length 0 (1, false), (newRow h (s.map u8) 1).2)
  | _ => none
 | some (.slice _), some (.slice e), .sref d j o l ep f =>
  match P.underlying e, h.get d j with
  | some (.int .u8), some (.row cells ep' esz fl pl) => if src = dst ∧ ep = ep' ∧ 0 < l then some (.sref d j o l ep f, h.set d j (.row cells ep' esz fl pl)) else none
  | _, _ => none
 | some (.slice e), some .string, x =>
  match P.underlying e with
  | some (.int .u8) => (lenV x).bind fun n => (h.sliceCells x 1 n).bind fun cs => if cs.all isByte then some (.str (cs.map byteOf), h) else none
  | _ => none
 | _, _, _ => none
def nilCheckV : V → Option V
 | .pref d j o e => some (.pref d j o e)
 | .pcon c o => some (.pcon c o)
 | .func (.func f) a b => some (.func (.func f) a b)
 | .yield d j => some (.yield d j)
 | .iface t v => some (.iface t v)
 | _ => none
def assertV (P : Program) (x : V) (asserted : TypeId) (commaOk : Bool) : Option V :=
 match P.underlying asserted, x with
 | some (.interface _), _ => none
 | some _, .iface t v => if t = asserted then some (if commaOk then .tuple [v, .bool true] else v) else if commaOk then (zeroV P asserted).map fun z => .tuple [z, .bool false] else none
 | some _, .niliface => if commaOk then (zeroV P asserted).map fun z => .tuple [z, .bool false] else none
 | _, _ => none
def makeSliceV (P : Program) (h : Heap) (t : TypeId) (l c : V) : Option (V × Heap) :=
 match P.underlying t, l, c with
 | some (.slice elem), .int .i64 l, .int .i64 c =>
  (zeroV P elem).bind fun z => (bytesV P elem).bind fun by_ => (sizeV P elem).bind fun n =>
  if 0 ≤ l ∧ l ≤ c ∧ c * by_ ≤ 2 ^ 46 ∧ c ≤ 2 ^ 46 ∧ z.cells.length = n then
   some (.sref 0 h.top.length 0 l.toNat 0 (n, l == c), (newRow h (rep z.cells l.toNat) n).2)
  else none
 | _, _, _ => none
def newsA (h : Heap) (k : Nat) (x : V) : Option (Nat × List V) :=
 match x with
 | .str b => some (b.length, b.map u8)
 | x => (lenV x).bind fun n => (h.sliceCells x k n).bind fun cs => some (n, cs)
def newsV (P : Program) (h : Heap) (elem : TypeId) (k : Nat) (t2 : Option TypeId) (x : V) : Option (Nat × List V) :=
 match t2 with
 | none => newsA h k x
 | some t =>
  match P.underlying t with
  | none => none
  | some (.int _) => (match x with
   | .int _ n => if 0 ≤ n ∧ n ≤ 2 ^ 46 then (zeroV P elem).bind fun z => (bytesV P elem).bind fun by_ => if z.cells.length = k ∧ n * by_ ≤ 2 ^ 46 then some (n.toNat, rep z.cells n.toNat) else none else none
   | _ => none)
  | some _ => newsA h k x
def appendV (P : Program) (h : Heap) (t : TypeId) (t2 : Option TypeId) (s x : V) : Option (V × Heap) :=
 match P.underlying t with
 | some (.slice elem) =>
  (sizeV P elem).bind fun k => (bytesV P elem).bind fun by_ => (zeroV P elem).bind fun z => (lenV s).bind fun len => (newsV P h elem k t2 x).bind fun (n, news) =>
  if k = 0 ∨ by_ = 0 ∨ 2 ^ 47 < (len + n) * by_ ∨ z.cells.length ≠ k ∨ news.length ≠ n * k then none else
  match s with
  | .nilslice => if n = 0 then some (.nilslice, h) else some (.sref 0 h.top.length 0 n 0 (k, false), (newRow h news k).2)
  | .sref d j off _ ep q =>
   if q.2 then (if n = 0 then some (s, h) else
    (h.sliceCells s k len).bind fun olds => some (.sref 0 h.top.length 0 (len + n) 0 (k, false), (newRow h (olds ++ news) k).2))
   else if n = 0 then some (s, h) else match h.get d j with
   | some (.row cells ep' esz flat plain) =>
    if ep = ep' ∧ off = 0 ∧ q.1 = k ∧ len * k ≤ cells.length ∧ okCells news ∧ esz / 4294967296 ≤ len * k then
     (if d = 0 then some news else V.downL d news).bind fun news' =>
     some (.sref d j 0 (len + n) (ep + 1) (k, false), h.set d j (.row (cells.take (len * k) ++ news') (ep + 1) esz (flat && V.flatL news') (plain && V.plainL news')))
    else none
   | _ => none
  | .scon _ _ _ full =>
   if full then (if n = 0 then some (s, h) else
    (h.sliceCells s k len).bind fun olds => some (.sref 0 h.top.length 0 (len + n) 0 (k, false), (newRow h (olds ++ news) k).2))
   else none
  | _ => none
 | _ => none
def copyV (P : Program) (h : Heap) (t : TypeId) (dst src : V) : Option (V × Heap) :=
 match P.underlying t with
 | some (.slice elem) =>
  (sizeV P elem).bind fun k => (lenV dst).bind fun dl => (lenV src).bind fun sl =>
  let n := min sl dl
  (match dst with | .str _ => none | _ => some ()).bind fun _ =>
  (match src with | .str b => some ((b.take n).map u8) | x => h.sliceCells x k n).bind fun news =>
  if n = 0 then some (.int .i64 0, h) else
  match dst with
  | .sref d j off _ ep _ =>
   match h.get d j with
   | some (.row cells ep' esz flat plain) =>
    if ep = ep' ∧ off + n * k ≤ cells.length ∧ news.length = n * k ∧ okCells news ∧ esz < 4294967296 then
     (if d = 0 then some news else V.downL d news).bind fun news' =>
     some (V.int .i64 ((n : Nat) : Int), h.set d j (.row (cells.take off ++ news' ++ cells.drop (off + n * k)) ep esz (flat && V.flatL news') (plain && V.plainL news')))
    else none
   | _ => none
  | _ => none
 | _ => none
def lenOp (P : Program) (t : TypeId) (x : V) : Option V :=
 match P.underlying t, x with
 | some .string, .str s => some (.int .i64 s.length)
 | some (.array n _), _ => some (.int .i64 n)
 | some (.pointer a), _ => (match P.underlying a with | some (.array n _) => some (.int .i64 n) | _ => none)
 | some (.slice _), x => (match x with | .str _ => none | _ => (lenV x).map fun (n : Nat) => V.int .i64 (n : Int))
 | some (.map _ _), .nilmap => some (.int .i64 0)
 | _, _ => none
def capV : V → Option Nat
 | .nilslice => some 0
 | .scon _ _ l full => if full then some l else none
 | _ => none
def clearV (P : Program) (h : Heap) (t : TypeId) (x : V) : Option (V × Heap) :=
 match P.underlying t with
 | some (.slice elem) =>
  (sizeV P elem).bind fun k => (zeroV P elem).bind fun z => (match x with | .str _ => none | _ => some ()).bind fun _ => (lenV x).bind fun n =>
  if n = 0 then some (V.undef, h) else
  match x with
  | .sref d j off n ep _ =>
   match h.get d j with
   | some (.row cells ep' esz flat plain) =>
    if ep = ep' ∧ off + n * k ≤ cells.length ∧ z.cells.length = k ∧ okCells z.cells ∧ V.plainL z.cells ∧ esz < 4294967296 then
     some (V.undef, h.set d j (.row (cells.take off ++ rep z.cells n ++ cells.drop (off + n * k)) ep esz flat plain))
    else none
   | _ => none
  | _ => none
 | _ => none
def minV : V → V → Option V
 | .int k x, .int _ y => some (.int k (if y < x then y else x))
 | _, _ => none
def maxV : V → V → Option V
 | .int k x, .int _ y => some (.int k (if y > x then y else x))
 | _, _ => none
def foldV (f : V → V → Option V) : V → List V → Option V
 | x, [] => some x
 | x, y :: r => (f x y).bind fun z => foldV f z r
def builtinV (P : Program) (h : Heap) (b : Builtin) (ts : List TypeId) (args : List V) : Option (V × Heap) :=
 match b, ts, args with
 | .append, t :: r, [s, x] => appendV P h t r.head? s x
 | .copy, t :: _, [d, s] => copyV P h t d s
 | .len, t :: _, [x] => (lenOp P t x).map fun v => (v, h)
 | .cap, t :: _, [x] => (match P.underlying t with | some (.slice _) => capV x | _ => none).map fun (n : Nat) => (V.int .i64 (n : Int), h)
 | .clear, t :: _, [x] => clearV P h t x
 | .min, _, x :: r => (foldV minV x r).map fun v => (v, h)
 | .max, _, x :: r => (foldV maxV x r).map fun v => (v, h)
 | _, _, _ => none
def mapGet (k : IntKind) (n : Int) : List (V × V) → Option (Option V)
 | [] => some none
 | (.int k' m, v) :: r => if k = k' then (if n = m then some (some v) else mapGet k n r) else none
 | _ => none
def mapPut (k : IntKind) (n : Int) (x : V) : List (V × V) → Option (List (V × V))
 | [] => some [(.int k n, x)]
 | (.int k' m, v) :: r => if k = k' then (if n = m then some ((.int k n, x) :: r) else (mapPut k n x r).map ((.int k' m, v) :: ·)) else none
 | _ => none
def makeMapV (h : Heap) (r : Option Operand) : Option (V × Heap) :=
 match r with
 | none => some (.mref 0 h.top.length, h.push (.mp []))
 | some _ => none
def lookupV (P : Program) (h : Heap) (t : TypeId) (m ix : V) (ok : Bool) : Option V :=
 match P.underlying t, m, ix with
 | some (.map key elem), .mref d j, .int k n =>
  match P.underlying key, h.get d j with
  | some (.int kd), some (.mp es) => if k = kd then (zeroV P elem).bind fun z => (mapGet k n es).bind fun r =>
    some (if ok then .tuple [r.getD z, .bool r.isSome] else r.getD z) else none
  | _, _ => none
 | _, _, _ => none
def mapPutV (P : Program) (h : Heap) (t : TypeId) (m ix x : V) : Option Heap :=
 match P.underlying t, m, ix with
 | some (.map key _), .mref d j, .int k n =>
  match P.underlying key, h.get d j with
  | some (.int kd), some (.mp es) => if k = kd ∧ V.plain x = true then (mapPut k n x es).map fun es' => h.set d j (.mp es') else none
  | _, _ => none
 | _, _, _ => none
def rangeV (P : Program) (h : Heap) (t : TypeId) (x : V) : Option (V × Heap) :=
 match P.underlying t, x with
 | some (.map _ _), .mref d j =>
  match h.get d j with
  | some (.mp es) => some (.yield 0 h.top.length, h.push (.it (some (d, j)) es.length [] es.length))
  | _ => none
 | _, _ => none
def nextsV (n since : Nat) (seen : List Nat) : List Nat × List Nat :=
 let left := (List.range n).filter fun i => !seen.contains i
 (left.filter fun i => decide (i < since), left.filter fun i => decide (since ≤ i))
def nextV (h : Heap) (it : V) (isString : Bool) : Option (V × Heap) :=
 match it, isString with
 | .yield d j, false =>
  match h.get d j with
  | some (.it (some (d', j')) since seen last) =>
   match h.get (d + d') j' with
   | some (.mp es) =>
    if !seen.isEmpty && !es.isEmpty && Nat.beq last 0 then none else
    match nextsV es.length since seen with
    | ([], []) => some (.tuple [.bool false], h)
    | ([i], []) => (es[i]?).map fun e => (.tuple [.bool true, e.1, e.2], h.set d j (.it (some (d', j')) since (seen ++ [i]) es.length))
    | _ => none
   | _ => none
  | _ => none
 | _, _ => none
def entryV (h : Heap) (it : V) : Option V :=
 match it with
 | .yield d j =>
  match h.get d j with
  | some (.it (some (d', j')) _ seen last) =>
   match h.get (d + d') j', seen.getLast? with
   | some (.mp es), some i => if es.length = last then (es[i]?).map fun e => .tuple [e.1, e.2] else none
   | _, _ => none
  | _ => none
 | _ => none
def partsV (ρ : Operand → V) : List (Nat × Operand) → List (Nat × V)
 | [] => []
 | (i, x) :: r => (i, ρ x) :: partsV ρ r
def opV (E : Env) (ρ : Operand → V) (h : Heap) (o : Op) : Option (V × Heap) :=
 match o with
 | .move x | .assign x => some (ρ x, h)
 | .pick c a b => (match ρ c with | .bool t => some (if t then ρ a else ρ b, h) | _ => none)
 | .alloc elem => (zeroV E.P elem).bind fun z => if okCells z.cells then some (.pref 0 h.top.length 0 0, (newRow h z.cells z.cells.length).2) else none
 | .box _ x => if okCells (ρ x).cells then some (.pref 0 h.top.length 0 0, (newRow h (ρ x).cells (ρ x).cells.length).2) else none
 | .build t parts => (buildV E.P t (partsV ρ parts.toList)).map fun v => (v, h)
 | .buildSlice t len parts =>
  (match E.P.underlying t with
  | some (.slice elem) => (sizeV E.P elem).bind fun k => (zeroV E.P elem).bind fun z =>
    if len * k ≤ 2 ^ 20 ∧ z.cells.length = k ∧ 0 < k then
     (fillV (fun i => some (i * k, k)) (rep z.cells len) (partsV ρ parts.toList)).bind fun cells =>
     if okCells cells then some (.sref 0 h.top.length 0 len 0 (k, true), (newRow h cells k).2) else none
    else none
  | _ => none)
 | .load t a => (loadV E.P h t (ρ a)).map fun v => (v, h)
 | .store t a x => (storeV E.P h t (ρ a) (ρ x)).map fun h' => (V.undef, h')
 | .nilCheck x => (nilCheckV (ρ x)).map fun v => (v, h)
 | .binOp op t x y _ => (binO E op t x y (ρ x) (ρ y)).map fun v => (v, h)
 | .unOp op _ x => (unV op (ρ x)).map fun v => (v, h)
 | .convert src dst x => convertV E.P h src dst (ρ x)
 | .makeInterface t x => (match E.P.underlying t with | some (.interface _) => none | some _ => some (.iface t (ρ x), h) | none => none)
 | .makeFunc fn first captured => some (.func fn (first.toList.map ρ) (captured.toList.map ρ), h)
 | .makeSlice t l c => makeSliceV E.P h t (ρ l) (ρ c)
 | .slice t x lo hi mx => (sliceV E.P t (ρ x) (lo.map ρ) (hi.map ρ) (mx.map ρ)).map fun v => (v, h)
 | .fieldAddr s x f => (fieldAddrV E.P s (ρ x) f).map fun v => (v, h)
 | .field t x f => (fieldV E.P t (ρ x) f).map fun v => (v, h)
 | .indexAddr t x i => (indexAddrV E.P t (ρ x) (ρ i)).map fun v => (v, h)
 | .index t x i => (indexV E.P t (ρ x) (ρ i)).map fun v => (v, h)
 | .typeAssert x _ asserted ok => (assertV E.P (ρ x) asserted ok).map fun v => (v, h)
 | .makeMap _ r => makeMapV h r
 | .lookup t m ix ok => (lookupV E.P h t (ρ m) (ρ ix) ok).map fun v => (v, h)
 | .mapUpdate t m k x => (mapPutV E.P h t (ρ m) (ρ k) (ρ x)).map fun h' => (V.undef, h')
 | .range t x => rangeV E.P h t (ρ x)
 | .next it isString => nextV h (ρ it) isString
 | .entry it => (entryV h (ρ it)).map fun v => (v, h)
 | .extract t i => (match ρ t with | .tuple vs => (vs[i]?).map fun v => (v, h) | _ => none)
 | .call { callee := .builtin b, args, argTypes } => builtinV E.P h b argTypes.toList (args.toList.map ρ)
 | _ => none
end Go.Sim
end
section
namespace Go.Sim
open Go
abbrev Rec := Code → St → Option (Exit × St)
def putT (tmps : List V) (dst : Option Tmp) (v : V) : List V :=
 match dst with
 | some d => tmps.set d v
 | none => tmps
def wantedV (ops : Array Oper) (tmps : List V) (o : Oper) : Option Bool :=
 match o.guard with
 | none => some true
 | some (j, want) =>
  match ((ops[j]?).bind (·.dst)).bind (tmps[·]?) with
  | some (.bool b) => some (b == want)
  | some .poison => none
  | _ => some false
def firstRegion : Code → Option Nat
 | .region id _ _ => some id
 | .seq a b => (firstRegion a).or (firstRegion b)
 | .cond _ a b => (firstRegion a).or (firstRegion b)
 | .block _ c => firstRegion c
 | .loop c => firstRegion c
 | .scope c => firstRegion c
 | .rangeFunc _ _ a b => (firstRegion a).or (firstRegion b)
 | _ => none
/- At the border of a function that is called by contents: an empty list is an empty list, and how much room lies behind it is not told. -/
mutual
def V.canon : V → V
 | .nilslice => .scon [] 0 0 false
 | .scon c o l _ => .scon (V.canonL c) o l false
 | .pcon c o => .pcon (V.canonL c) o
 | .iface t v => .iface t (V.canon v)
 | .agg cs => .agg (V.canonL cs)
 | .tuple vs => .tuple (V.canonL vs)
 | v => v
def V.canonL : List V → List V
 | [] => []
 | v :: r => V.canon v :: V.canonL r
end
def promCell (j ep o esz : Nat) (h : Heap) : Option Heap :=
 match h.get 0 j with
 | some (.row cells ep' esz' _ _) =>
  match cells[o]? with
  | some .nilslice => if ep = ep' then some ((h.set 0 j (.row (cells.set o (.sref 0 h.top.length 0 0 0 (esz, false))) ep' esz' false false)).push (.row [] 0 esz true true)) else none
  | _ => some h
 | _ => none
def promCells (j ep esz : Nat) : Nat → Nat → Heap → Option Heap
 | _, 0, h => some h
 | o, n + 1, h => (promCell j ep o esz h).bind (promCells j ep esz (o + 1) n)
def promAll (v : V) (off esz : Nat) (h : Heap) : Option Heap :=
 match v with
 | .pref 0 j off0 ep =>
  match h.get 0 j with
  | some (.row cells ep' _ _ _) =>
   if ep = ep' then
    match cells[off0 + off]? with
    | some (.sref 0 j2 o2 len2 ep2 _) => if len2 = 0 then some h else promCells j2 ep2 esz o2 len2 h
    | _ => some h
   else none
  | _ => none
 | _ => some h
def V.loose : V → V
 | .sref d j o l e q => .sref d j o l e (q.1, false)
 | v => v
/- What refers to row j of the own level becomes its content. -/
mutual
def V.fork (j ep : Nat) (cells : List V) : V → V
 | .pref d j' o e => if d == 0 && (j' == j && e == ep) then .pcon cells o else .pref d j' o e
 | .sref d j' o l e q => if d == 0 && (j' == j && e == ep) then .scon cells o l q.2 else .sref d j' o l e q
 | .func fn a b => .func fn (V.forkL j ep cells a) (V.forkL j ep cells b)
 | .iface t v => .iface t (V.fork j ep cells v)
 | .agg cs => .agg (V.forkL j ep cells cs)
 | .tuple vs => .tuple (V.forkL j ep cells vs)
 | v => v
def V.forkL (j ep : Nat) (cells : List V) : List V → List V
 | [] => []
 | v :: r => V.fork j ep cells v :: V.forkL j ep cells r
end
def forkBlk (j ep : Nat) (cells : List V) : Blk → Blk
 | .row cs e esz flat plain => if flat then .row cs e esz flat plain else .row (V.forkL j ep cells cs) e esz false false
 | .loop fn tmps ps a b st p => .loop fn (V.forkL j ep cells tmps) ps a b st p
 | b => b
def forkV (i : Nat) (s : St) : Option St :=
 match s.tmps.getD i .poison with
 | .sref 0 j 0 len ep q =>
  match s.heap.get 0 j with
  | some (.row cells ep' esz true true) =>
   if ep = ep' ∧ esz / 4294967296 ≤ cells.length then some { s with tmps := (V.forkL j ep cells s.tmps).set i (.sref 0 j 0 len ep q), heap := (s.heap.setTop (s.heap.top.map (forkBlk j ep cells))).set 0 j (.row cells ep (esz % 4294967296 + 4294967296 * cells.length) true true) }
   else none
  | _ => none
 | _ => some s
def hintV (h : Hint) (s : St) : Option St :=
 match h with
 | .forget i => some { s with tmps := s.tmps.set i .poison }
 | .canon i => some { s with tmps := s.tmps.set i (V.canon (s.tmps.getD i .poison)) }
 | .promote i esz =>
  match s.tmps.getD i .poison with
  | .nilslice => some { s with tmps := s.tmps.set i (.sref 0 s.heap.top.length 0 0 0 (esz, false)), heap := s.heap.push (.row [] 0 esz true true) }
  | _ => some s
 | .promoteBox i off esz =>
  match s.tmps.getD i .poison with
  | .pref 0 j off0 ep =>
   match s.heap.get 0 j with
   | some (.row cells ep' esz' _ _) =>
    match cells[off0 + off]? with
    | some .nilslice => if ep = ep' then
      some { s with heap := (s.heap.set 0 j (.row (cells.set (off0 + off) (.sref 0 s.heap.top.length 0 0 0 (esz, false))) ep' esz' false false)).push (.row [] 0 esz true true) }
     else none
    | _ => some s
   | _ => none
  | _ => some s
 | .promoteAll i off esz => (promAll (s.tmps.getD i .poison) off esz s.heap).map fun h => { s with heap := h }
 | .loose i => some { s with tmps := s.tmps.set i (V.loose (s.tmps.getD i .poison)) }
 | .fork i => forkV i s
def hintsV : List Hint → St → Option St
 | [], s => some s
 | h :: r, s => (hintV h s).bind (hintsV r)
/- What refers to a block of the own level from number k on becomes its content, or is forgotten. -/
mutual
def V.settle (k : Nat) (top : Heap) : V → V
 | .pref d j o e => if d == 0 && Nat.ble k j then (V.view 50 top (.pref d j o e)).getD .poison else .pref d j o e
 | .sref d j o l e f => if d == 0 && Nat.ble k j then (V.view 50 top (.sref d j o l e f)).getD .poison else .sref d j o l e f
 | .mref d j => if d == 0 && Nat.ble k j then .poison else .mref d j
 | .yield d j => if d == 0 && Nat.ble k j then .poison else .yield d j
 | .func fn a b => .func fn (V.settleL k top a) (V.settleL k top b)
 | .iface t v => .iface t (V.settle k top v)
 | .agg cs => .agg (V.settleL k top cs)
 | .tuple vs => .tuple (V.settleL k top vs)
 | v => v
def V.settleL (k : Nat) (top : Heap) : List V → List V
 | [] => []
 | v :: r => V.settle k top v :: V.settleL k top r
end
def settleBlk (k : Nat) (top : Heap) : Blk → Blk
 | .row cells ep esz flat plain => if flat then .row cells ep esz flat plain else .row (V.settleL k top cells) ep esz false false
 | .loop fn tmps ps a b st p => .loop fn (V.settleL k top tmps) ps a b st p
 | .dead => .dead
 | .mp es => .mp es
 | .it m since seen last => .it (match m with | some (0, j) => if k ≤ j then none else some (0, j) | m => m) since seen last
def Heap.keeps : Heap → Bool
 | (.it none 77 [] 77 :: _) :: _ => true
 | _ => false
def Heap.deadAt (h : Heap) (k : Nat) : Heap :=
 match h.get 0 k with
 | some (.loop ..) => h.set 0 k .dead
 | _ => h
def St.trim (k : Nat) (s : St) : St :=
 if s.heap.top.length = k then s else
 if s.heap.keeps = true then { s with heap := s.heap.deadAt k } else
 let m : Heap := [List.replicate k .dead ++ s.heap.top.drop k]
 { s with tmps := V.settleL k m s.tmps, heap := s.heap.setTop ((s.heap.top.take k).map (settleBlk k m)) }
def forgets : List Hint → St → St
 | [], s => s
 | .forget i :: r, s => forgets r { s with tmps := s.tmps.set i .poison }
 | _ :: r, s => forgets r s
def resultsV (P : Program) (s : St) : List ResultVar → Option (List V)
 | [] => some []
 | .tmp t :: r => (resultsV P s r).bind fun l => some (s.tmps.getD t .poison :: l)
 | .cell a t :: r => (nilCheckV (s.tmps.getD a .poison)).bind fun p => (loadV P s.heap t p).bind fun v => (resultsV P s r).bind fun l => some (v :: l)
def joinV : List V → V
 | [v] => v
 | l => .tuple l
/- What goes out of the level that ends: its own blocks by their contents. -/
mutual
def V.freeze (top : Heap) : V → Option V
 | .pref 0 j off ep => V.view 50 top (.pref 0 j off ep)
 | .sref 0 j off len ep full => V.view 50 top (.sref 0 j off len ep full)
 | .func fn a b => (V.freezeL top a).bind fun a' => (V.freezeL top b).bind fun b' => some (.func fn a' b')
 | .iface t v => (V.freeze top v).bind fun v' => some (.iface t v')
 | .agg cs => (V.freezeL top cs).bind fun cs' => some (.agg cs')
 | .tuple vs => (V.freezeL top vs).bind fun vs' => some (.tuple vs')
 | v => V.down 1 v
def V.freezeL (top : Heap) : List V → Option (List V)
 | [] => some []
 | v :: r => (V.freeze top v).bind fun v' => (V.freezeL top r).bind fun r' => some (v' :: r')
end
/- A result that holds no content but those of the level that ends, which hold none in turn. -/
mutual
def V.own (h : Heap) : V → Bool
 | .pref 0 j _ _ | .sref 0 j _ _ _ _ => (match h.get 0 j with | some (.row _ _ _ flat plain) => flat && plain | _ => false)
 | .agg cs => V.ownL h cs
 | .tuple vs => V.ownL h vs
 | .iface _ v => V.own h v
 | .scon [] 0 0 false => true
 | .poison => true
 | v => V.plain v
def V.ownL (h : Heap) : List V → Bool
 | [] => true
 | v :: r => V.own h v && V.ownL h r
end
/- A result without what is not its own: a content is no more than that there is one, and how long. -/
mutual
def V.strip : V → V
 | .pref 0 j o e => .pref 0 j o e
 | .sref 0 j o l e f => .sref 0 j o l e f
 | .pcon _ _ => .pcon [] 0
 | .scon _ _ l _ => .scon [] 0 l false
 | .agg cs => .agg (V.stripL cs)
 | .tuple vs => .tuple (V.stripL vs)
 | .iface t v => .iface t (V.strip v)
 | v => if V.plain v then v else .poison
def V.stripL : List V → List V
 | [] => []
 | v :: r => V.strip v :: V.stripL r
end
def stripBlk : Blk → Blk
 | .row cells ep esz flat plain => if plain then .row cells ep esz flat plain else .row (V.stripL cells) ep esz false false
 | .it _ _ _ _ => .dead
 | b => b
def viewArgs (h : Heap) : List V → Option (List V)
 | [] => some []
 | v :: r => (if V.flat v then some v else V.view 50 h v).bind fun v' => (viewArgs h r).bind fun r' => some (V.canon v' :: r')
def bodyV (E : Env) (rec : Rec) (f : FuncId) (args : List V) (h : Heap) : Option (V × Heap) :=
 if E.fns f then
 match E.P.funcs[f]? with
 | none => none
 | some fn =>
  match fn.body with
  | none => none
  | some c =>
   match rec c { fn := f, tmps := args ++ List.replicate (fn.ntmps - args.length) .poison, heap := h } with
   | some (.normal, s) | some (.ret, s) => (resultsV E.P s fn.results.toList).map fun l => (joinV l, s.heap)
   | _ => none
 else none
def pureV (E : Env) (rec : Rec) (f : FuncId) (lent : Bool) (args : List V) : Option V :=
 (bodyV E rec f args [[]]).bind fun (r, h) => if lent && !V.own h r then (V.freeze [h.top.map stripBlk] (V.strip r)).map V.canon else (V.freeze [h.top] r).map V.canon
/- Out of the level that ends, with its blocks, which lie behind the k of the caller's. -/
mutual
def V.out (k : Nat) : V → V
 | .pref d j o e => if d = 0 then .pref 0 (k + j) o e else .pref (d - 1) j o e
 | .sref d j o l e f => if d = 0 then .sref 0 (k + j) o l e f else .sref (d - 1) j o l e f
 | .mref d j => if d = 0 then .mref 0 (k + j) else .mref (d - 1) j
 | .yield d j => if d = 0 then .yield 0 (k + j) else .yield (d - 1) j
 | .func fn a b => .func fn (V.outL k a) (V.outL k b)
 | .iface t v => .iface t (V.out k v)
 | .agg cs => .agg (V.outL k cs)
 | .tuple vs => .tuple (V.outL k vs)
 | v => v
def V.outL (k : Nat) : List V → List V
 | [] => []
 | v :: r => V.out k v :: V.outL k r
end
def outBlk (k : Nat) : Blk → Blk
 | .row cells ep esz flat plain => if flat then .row cells ep esz flat plain else .row (V.outL k cells) ep esz false false
 | .mp es => .mp es
 | _ => .dead
def callV (E : Env) (rec : Rec) (f : FuncId) (args : List V) (h : Heap) : Option (V × Heap) :=
 match E.known f with
 | some F => F args h
 | none =>
 match E.mode f with
 | .pure => (viewArgs h args).bind fun args' => (pureV E rec f (!V.flatL args) args').map fun r => (r, h)
 | .own => (viewArgs h args).bind fun args' => (bodyV E rec f args' [[]]).bind fun (r, h') =>
   if !V.flatL args && !V.own h' r then some (V.out h.top.length (V.strip r), h.setTop (h.top ++ (h'.top.map stripBlk).map (outBlk h.top.length)))
   else some (V.out h.top.length r, h.setTop (h.top ++ h'.top.map (outBlk h.top.length)))
 | .heap => (bodyV E rec f (V.upL 1 args) ([] :: h)).bind fun (r, h') => (V.freeze [h'.top] r).bind fun r' => some (r', h'.tail)
 | .live => (bodyV E rec f (V.upL 1 args) ([] :: h)).bind fun (r, h') =>
   some (V.out (Heap.top h'.tail).length r, Heap.setTop h'.tail (Heap.top h'.tail ++ h'.top.map (outBlk (Heap.top h'.tail).length)))
 | .inl => bodyV E rec f args h
def cloneWL (L k : Nat) (args : List V) (h : Heap) : Option (V × Heap) :=
 match args with
 | [.str _] => none
 | [s] =>
  (lenV s).bind fun n =>
  if n = 0 then some (.scon [] 0 0 false, h) else
  (h.sliceCells s k n).bind fun cs => if L < n ∨ okCells cs = false then none else some (.sref 0 (h.top.length + 1) 0 n 0 (k, false), (newRow (newRow h [] k).2 cs k).2)
 | _ => none
def setArgs (tmps : List V) : List Tmp → List V → List V
 | p :: ps, v :: vs => setArgs (tmps.set p v) ps vs
 | _, _ => tmps
def roundV (rec : Rec) (d j : Nat) (args : List V) (h : Heap) : Option (V × Heap) :=
 match h.get d j with
 | some (.loop fn tmps ps assign body true none) =>
  if args.length = ps.length then
   ((if d = 0 then some args else V.downL d args)).bind fun args' =>
   match rec assign { fn, tmps := setArgs tmps ps args', heap := h.drop d } with
   | some (.normal, s1) =>
    match s1.heap.get 0 j with
    | some (.loop fn' tmps' ps' a' b' true none) =>
     match rec body { s1 with heap := s1.heap.set 0 j (.loop fn' tmps' ps' a' b' false none) } with
     | some (e, s2) =>
      let jump : Option (Option Code) := match e with | .normal => some none | .ret => some (some .ret) | .exit id => some (some (.exit id)) | .goto l => some (some (.goto l)) | _ => none
      jump.bind fun p =>
      match s2.heap.get 0 j with
      | some (.loop fn2 tmps2 ps2 a2 b2 _ _) =>
       let s3 := (St.mk s2.fn [] (s2.heap.set 0 j (.loop fn2 tmps2 ps2 a2 b2 p.isNone p))).trim (Heap.top (h.drop d)).length
       some (.bool p.isNone, h.take d ++ s3.heap)
      | _ => none
     | none => none
    | _ => none
   | _ => none
  else none
 | _ => none
def applyV (E : Env) (rec : Rec) (f : V) (args : List V) (h : Heap) : Option (V × Heap) :=
 match f with
 | .func (.func f) first captured => callV E rec f (first ++ args ++ captured) h
 | .yield d j => roundV rec d j args h
 | _ => none
def methodV (P : Program) (h : Heap) (recv : V) (name : String) : Option (FuncId × V) :=
 match recv with
 | .iface t v =>
  (P.info? t).bind fun i => (i.methods.find? (·.name == name)).bind fun m =>
  if m.path.isEmpty then
   match m.func with
   | some (f, ptr) =>
    match P.underlying t, ptr with
    | some (.pointer _), true => some (f, v)
    | some (.pointer elem), false => (nilCheckV v).bind fun p => (loadV P h elem p).map fun x => (f, x)
    | some _, false => some (f, v)
    | _, _ => none
   | none => none
  else none
 | _ => none
def operV (E : Env) (rec : Rec) (tmps : List V) (h : Heap) (o : Op) : Option (V × Heap) :=
 match o with
 | .call { callee := .value f, args, .. } => applyV E rec (evalT tmps f) (args.toList.map (evalT tmps)) h
 | .call { callee := .invoke recv name, args, .. } => (methodV E.P h (evalT tmps recv) name).bind fun (f, r) => callV E rec f (r :: args.toList.map (evalT tmps)) h
 | o => opV E (evalT tmps) h o
def opsV (E : Env) (rec : Rec) (ops : Array Oper) : List Oper → St → Option St
 | [], s => some s
 | o :: r, s =>
  (wantedV ops s.tmps o).bind fun w =>
  if w then (operV E rec s.tmps s.heap o.op).bind fun (v, h) => opsV E rec ops r { s with tmps := putT s.tmps o.dst v, heap := h }
  else opsV E rec ops r { s with tmps := putT s.tmps o.dst V.undef }
inductive Kind where
 | n | r | a | e
 deriving DecidableEq, Inhabited
def kindOf (P : Program) : Op → Kind
 | .move _ | .assign _ | .pick .. | .build .. | .nilCheck _ | .binOp .. | .unOp .. | .makeInterface .. | .makeFunc .. | .slice .. | .fieldAddr .. | .field .. | .indexAddr .. | .index .. | .typeAssert .. | .extract .. => .n
 | .load .. => .r
 | .alloc .. | .box .. | .buildSlice .. | .makeSlice .. => .a
 | .convert src dst _ =>
  match P.underlying src, P.underlying dst with
  | _, some (.int _) => .n
  | some .string, some .string => .n
  | some (.slice _), some .string => .r
  | some .string, some (.slice _) => .a
  | _, _ => .e
 | .call { callee := .builtin .len, .. } | .call { callee := .builtin .cap, .. } | .call { callee := .builtin .min, .. } | .call { callee := .builtin .max, .. } => .n
 | _ => .e
def kindT (E : Env) (T : List V) (o : Op) : Kind :=
 match o with
 | .call { callee := .value f, .. } =>
  (match evalT T f with
  | .func (.func g) _ _ => (match E.known g, E.mode g with | none, .pure => .r | none, .own => .a | _, _ => .e)
  | _ => .e)
 | o => kindOf E.P o
def reach (ops : Array Oper) : Nat → Nat → Nat → Bool
 | 0, _, _ => false
 | f + 1, i, j => match ops[i]? with
  | none => false
  | some o => o.after.any fun e => Region.binds .any e && (e.on == j || reach ops f e.on j)
def stab (ops : Array Oper) (i : Nat) (t : Tmp) : Bool := (List.range ops.size).all fun j => Nat.blt j i || (match ops[j]? with | some o => !(o.dst == some t) | none => true)
def stabO (ops : Array Oper) (i : Nat) : Operand → Bool
 | .tmp t => stab ops i t
 | _ => true
def apartV : V → V → Bool
 | .pref d j _ _, .pref d' j' _ _ => !(d == d') || !(j == j')
 | .pcon .., .pref .. => true
 | _, _ => false
def apartS : V → V → Bool
 | .pref d j _ _, .sref d' j' _ _ _ (_, false) => !(Nat.beq d d') || !(Nat.beq j j')
 | _, _ => false
def isPref : V → Bool
 | .pref .. => true
 | _ => false
def argApart (A : V) : V → Bool
 | .pref d j o e => apartV A (.pref d j o e)
 | .int .. | .bool .. | .str .. | .nilptr | .nilslice | .scon .. => true
 | _ => false
def noNew (E : Env) (T : List V) (ops : Array Oper) (i j : Nat) : Bool :=
 Nat.blt i j || (List.range i).all fun m => Nat.ble m j || match ops[m]? with | some x => !(kindT E T x.op == .a) | none => true
def disj (E : Env) (T : List V) (ops : Array Oper) (i j : Nat) (o q : Oper) : Bool :=
 match o.op, q.op with
 | .load _ a, .store _ b _ => stabO ops i a && stabO ops j b && apartV (evalT T a) (evalT T b) && noNew E T ops i j
 | .load _ a, .call { callee := .value f, args, .. } =>
  (match evalT T f with
  | .func (.func g) [] [] => E.frame g && (E.known g).isSome && isPref (evalT T a) && stabO ops i a && stabO ops j f && args.toList.all (fun x => stabO ops j x && argApart (evalT T a) (evalT T x)) && noNew E T ops i j
  | _ => false)
 | .load _ a, .call { callee := .builtin .append, args, .. } =>
  (match args.toList with
  | x :: _ => stabO ops i a && stabO ops j x && apartS (evalT T a) (evalT T x) && noNew E T ops i j
  | [] => false)
 | _, _ => false
def confS (ops : Array Oper) (x y : Oper) : Bool :=
 (match x.dst with | some d => (y.looksAt ops).contains d || y.dst == some d | none => false) || (match y.dst with | some d => (x.looksAt ops).contains d | none => false)
def confK (x y : Kind) : Bool := (x == .e && !(y == .n)) || (y == .e && !(x == .n))
def stabC (ops : Array Oper) (i : Nat) (o : Op) : Bool :=
 match o with
 | .call { callee := .value f, .. } => stabO ops i f
 | _ => true
def backE (ops : Array Oper) : Bool := (List.range ops.size).all fun i => match ops[i]? with
 | none => false
 | some o => o.after.all fun e => Nat.blt e.on i
def predM (md : Region.Mode) : List Edge → Nat
 | [] => 0
 | e :: r => if Region.binds md e then Nat.lor (Nat.shiftLeft 1 e.on) (predM md r) else predM md r
def scanM (md : Region.Mode) : List Oper → Nat → Nat → Nat
 | [], _, D => D
 | o :: r, i, D => scanM md r (i + 1) (if Nat.beq (Nat.land (predM md o.after.toList) D) (predM md o.after.toList) then Nat.lor D (Nat.shiftLeft 1 i) else D)
def topoM (md : Region.Mode) (l : List Oper) (full : Nat) : Nat → Nat → Nat
 | 0, D => D
 | k + 1, D => if Nat.beq D full then D else topoM md l full k (scanM md l 0 D)
def rankE (md : Region.Mode) (ops : Array Oper) : Bool := Nat.beq (topoM md ops.toList (2 ^ ops.size - 1) ops.size 0) (2 ^ ops.size - 1)
def edgesOk (ops : Array Oper) : Bool := backE ops || (rankE .text ops && rankE .gc ops)
def regOkD (E : Env) (ops : Array Oper) (T : List V) : Bool :=
 edgesOk ops && (List.range ops.size).all fun i => match ops[i]? with
  | none => false
  | some o => stabC ops i o.op && (List.range i).all fun j => match ops[j]? with
   | none => false
   | some q => (!confS ops q o && (!confK (kindT E T q.op) (kindT E T o.op) || disj E T ops i j o q || disj E T ops j i q o)) || reach ops 8 i j
def evStep (E : Env) (rec : Rec) : Rec := fun c s =>
 match c with
 | .skip => some (.normal, s)
 | .region _ ops draw => (opsV E rec ops ops.toList s).bind fun s' => if draw && !regOkD E ops s'.tmps then none else some (.normal, s')
 | .seq a b => match rec a s with | some (.normal, s') => rec b s' | r => r
 | .cond x a b => match evalT s.tmps x with | .bool t => rec (if t then a else b) s | _ => none
 | .block id c => match rec c s with | some (.exit i, s') => if i = id then some (.normal, s') else some (.exit i, s') | r => r
 | .loop body =>
  (hintsV (E.hint s.fn ((firstRegion body).getD 0)) s).bind fun s0 =>
  match rec body s0 with
  | some (.normal, s') => rec (.loop body) ((forgets (E.hint s.fn ((firstRegion body).getD 0)) s').trim s0.heap.top.length)
  | r => r
 | .rangeFunc f ps assign body =>
  (hintsV (E.hint s.fn (((firstRegion assign).or (firstRegion body)).getD 0)) s).bind fun s =>
  let j := s.heap.top.length
  let h1 := s.heap.push (.loop s.fn s.tmps ps.toList assign body true none)
  (match evalT s.tmps f with | .func (.func g) first captured => callV E rec g (first ++ [V.yield 0 j] ++ captured) h1 | _ => none).bind fun (_, h2) =>
  match h2.get 0 j with
  | some (.loop _ _ _ _ _ ready p) =>
   if ready || p.isSome then
    let s' := { s with heap := h2 }.trim j
    match p with
    | none => some (.normal, s')
    | some c => rec c s'
   else none
  | _ => none
 | .exit id => some (.exit id, s)
 | .scope c =>
  match rec c s with
  | some (.goto l, s') =>
   match findLabel c l with
   | some rest => (match rec rest s' with | some (.goto _, _) => none | r => r)
   | none => none
  | r => r
 | .label _ => some (.normal, s)
 | .goto l => some (.goto l, s)
 | .ret => some (.ret, s)
 | .refuse _ => none
def ev (E : Env) : Nat → Rec
 | 0 => fun _ _ => none
 | n + 1 => evStep E (ev E n)
end Go.Sim
end
section
namespace Go.Sim
open Go
inductive Ent where
 | out
 | dead
 | row (b : Option Nat) (ep esz : Nat)
 | loop (l : Nat)
 | mp (b : Nat)
 | it (b : Nat)
abbrev Bd := Nat → Nat → Ent
def Ent.blk : Ent → Option Nat
 | .row b _ _ => b
 | .loop l => some l
 | .mp b => some b
 | .it b => some b
 | _ => none
def Bd.from_ (B : Bd) (d : Nat) : Bd := fun d' j => B (d + d') j
def Bd.none_ : Bd := fun _ _ => .out
def one : Value → Bool
 | .agg _ | .tuple _ => false
 | _ => true
def csize (w : World) (b : Nat) : Nat :=
 match w.heap[b]? with
 | some (.cells c _ _) => c.size
 | _ => 0
def PShape (v : Value) : Prop := ∃ a, v = .pointer (some a)
def SShape (len e : Nat) (v : Value) : Prop := ∃ a cap, v = .slice a len cap ∧ len ≤ cap ∧ (a = none → cap = 0 ∧ e = 0)
def YShape (v : Value) : Prop := (∃ l, v = .func (.yield l) #[] #[]) ∨ ∃ a, v = .pointer (some a)
def SliceAt (w : World) (b : Nat) (off len cap : Nat) (q : Nat × Bool) (o : Nat) : Prop :=
 len ≤ cap ∧ (q.2 = true → cap = len) ∧ (0 < cap → o = off) ∧ (0 < q.1 → off + cap * q.1 ≤ csize w b)
mutual
def VRel (ok : Nat → Nat → Prop) (w : World) (B : Bd) : V → Value → Prop
 | .bool b, v => v = .bool b
 | .int k n, v => v = .int k n
 | .float k n, v => v = .float k n
 | .str s, v => v = .string ⟨s.toArray⟩
 | .nilptr, v => v = .pointer none
 | .nilslice, v => v = .slice none 0 0
 | .nilfunc, v => v = .nilFunc
 | .niliface, v => v = .nilIface
 | .nilmap, v => v = .map none
 | .poison, _ => True
 | .pref d j o e, v =>
  match B d j with
  | .dead => PShape v
  | .row b ep _ => (e < ep ∧ PShape v) ∨ (e = ep ∧ ∃ b0, b = some b0 ∧ v = .pointer (some ⟨b0, o, none⟩))
  | _ => False
 | .sref d j off len e full, v =>
  match B d j with
  | .dead => SShape len e v
  | .row b ep esz => (e < ep ∧ SShape len e v) ∨ (e = ep ∧ ((∃ b0 cap o, b = some b0 ∧ v = .slice (some ⟨b0, o, none⟩) len cap ∧ SliceAt w b0 off len cap full o) ∨
    (b = none ∧ off = 0 ∧ len = 0 ∧ e = 0 ∧ v = .slice none 0 0)))
  | _ => False
 | .mref d j, v =>
  match B d j with
  | .dead => ∃ r, v = .map (some r)
  | .mp b => v = .map (some b)
  | _ => False
 | .yield d j, v =>
  match B d j with
  | .dead => YShape v
  | .loop l => v = .func (.yield l) #[] #[]
  | .it b => v = .pointer (some ⟨b, 0, none⟩)
  | _ => False
 | .pcon cells off, v => ∃ b base, v = .pointer (some ⟨b, base + off, none⟩) ∧ CRel ok w b base cells
 | .scon cells off len full, v =>
  (∃ (b base cap : Nat) (a : Addr), v = .slice (some a) len cap ∧ len ≤ cap ∧ (full = true → cap = len) ∧ (0 < cap → a = ⟨b, base + off, none⟩) ∧ CRel ok w b base cells) ∨
  (len = 0 ∧ v = .slice none 0 0)
 | .func fn a b, v => ∃ a' b' : List Value, v = .func fn a'.toArray b'.toArray ∧ VRelL ok w B a a' ∧ VRelL ok w B b b'
 | .iface t x, v => ∃ x', v = .iface t x' ∧ VRel ok w B x x'
 | .agg cs, v => ∃ cs' : List Value, v = .agg cs'.toArray ∧ ORelL ok w B cs cs'
 | .tuple vs, v => ∃ vs' : List Value, v = .tuple vs'.toArray ∧ VRelL ok w B vs vs'
def VRelL (ok : Nat → Nat → Prop) (w : World) (B : Bd) : List V → List Value → Prop
 | [], l => l = []
 | v :: r, l => ∃ c l', l = c :: l' ∧ VRel ok w B v c ∧ VRelL ok w B r l'
def ORelL (ok : Nat → Nat → Prop) (w : World) (B : Bd) : List V → List Value → Prop
 | [], l => l = []
 | v :: r, l => ∃ c l', l = c :: l' ∧ one c = true ∧ VRel ok w B v c ∧ ORelL ok w B r l'
def CRel (ok : Nat → Nat → Prop) (w : World) (b : Nat) (i : Nat) : List V → Prop
 | [] => True
 | v :: r => (∃ c, w.cell? ⟨b, i, none⟩ = some c ∧ one c = true ∧ (∃ n, i < n ∧ ok b n) ∧ VRel ok w Bd.none_ v c) ∧ CRel ok w b (i + 1) r
end
def EntLe (w w' : World) : Ent → Ent → Prop
 | .out, _ => True
 | .dead, e => e = .dead
 | .row b ep _, e => e = .dead ∨ ∃ b' ep' esz', e = .row b' ep' esz' ∧ (ep < ep' ∨ (ep = ep' ∧ b' = b ∧ ∀ b0, b = some b0 → csize w b0 ≤ csize w' b0))
 | .loop l, e => e = .dead ∨ e = .loop l
 | .mp l, e => e = .dead ∨ e = .mp l
 | .it l, e => e = .dead ∨ e = .it l
theorem EntLe.refl {w w' : World} (e : Ent) (h : ∀ b, e.blk = some b → csize w b ≤ csize w' b) : EntLe w w' e e := by
 cases e with
 | out => trivial
 | dead => rfl
 | row b ep esz => exact .inr ⟨b, ep, esz, rfl, .inr ⟨rfl, rfl, fun b0 hb => h b0 hb⟩⟩
 | loop l => exact .inr rfl
 | mp l => exact .inr rfl
 | it l => exact .inr rfl
theorem cell?_of_heap {w w' : World} {b i : Nat} (h : w'.heap[b]? = w.heap[b]?) : w'.cell? ⟨b, i, none⟩ = w.cell? ⟨b, i, none⟩ := by
 simp [World.cell?, h]
theorem lt_of_cell {w : World} {b i : Nat} {c : Value} (h : w.cell? ⟨b, i, none⟩ = some c) : b < w.heap.size := by
 rcases Nat.lt_or_ge b w.heap.size with h1 | h1
 ·exact h1
 ·simp [World.cell?, Array.getElem?_eq_none h1] at h
section mono
variable {ok ok' : Nat → Nat → Prop} {w w' : World}
def OkLe (ok ok' : Nat → Nat → Prop) (w w' : World) : Prop := ∀ b n, ok b n → b < w.heap.size → ok' b n ∧ ∀ i, i < n → w'.cell? ⟨b, i, none⟩ = w.cell? ⟨b, i, none⟩
mutual
theorem VRel.mono (hok : OkLe ok ok' w w') {B B' : Bd} (hB : ∀ d j, EntLe w w' (B d j) (B' d j)) : ∀ (v : V) (c : Value), VRel ok w B v c → VRel ok' w' B' v c
 | .bool _, _, h | .int _ _, _, h | .float _ _, _, h | .str _, _, h | .nilptr, _, h | .nilslice, _, h | .nilfunc, _, h
 | .niliface, _, h | .nilmap, _, h => h
 | .poison, _, _ => trivial
 | .pref d j o e, c, h => by
  have hb := hB d j
  simp only [VRel] at h ⊢
  cases hE : B d j with
  | out => rw [hE] at h; exact h.elim
  | dead => rw [hE] at hb h; simp only [EntLe] at hb; rw [hb]; exact h
  | loop l => rw [hE] at h; exact h.elim
  | mp l => rw [hE] at h; exact h.elim
  | it l => rw [hE] at h; exact h.elim
  | row b ep esz =>
   rw [hE] at h hb
   simp only [EntLe] at hb
   have h1 : PShape c := by
    rcases h with ⟨_, h⟩ | ⟨_, b0, _, rfl⟩
    ·exact h
    ·exact ⟨_, rfl⟩
   rcases hb with hb | ⟨b', ep', esz', hb, hcase⟩
   ·rw [hb]; exact h1
   ·rw [hb]
    rcases hcase with hlt | ⟨rfl, rfl, hs⟩
    ·rcases h with h | ⟨h, _⟩
     ·exact .inl ⟨Nat.lt_trans h.1 hlt, h1⟩
     ·exact .inl ⟨h ▸ hlt, h1⟩
    ·exact h
 | .sref d j off len e full, c, h => by
  have hb := hB d j
  simp only [VRel] at h ⊢
  cases hE : B d j with
  | out => rw [hE] at h; exact h.elim
  | dead => rw [hE] at hb h; simp only [EntLe] at hb; rw [hb]; exact h
  | loop l => rw [hE] at h; exact h.elim
  | mp l => rw [hE] at h; exact h.elim
  | it l => rw [hE] at h; exact h.elim
  | row b ep esz =>
   rw [hE] at h hb
   simp only [EntLe] at hb
   have h1 : SShape len e c := by
    rcases h with ⟨_, h⟩ | ⟨_, ⟨b0, cap, o, _, rfl, h2, _⟩ | ⟨_, _, rfl, h0, rfl⟩⟩
    ·exact h
    ·exact ⟨_, _, rfl, h2, fun h => by cases h⟩
    ·exact ⟨none, 0, rfl, Nat.le_refl _, fun _ => ⟨rfl, h0⟩⟩
   rcases hb with hb | ⟨b', ep', esz', hb, hcase⟩
   ·rw [hb]; exact h1
   ·rw [hb]
    rcases hcase with hlt | ⟨rfl, rfl, hs⟩
    ·rcases h with h | ⟨h, _⟩
     ·exact .inl ⟨Nat.lt_trans h.1 hlt, h1⟩
     ·exact .inl ⟨h ▸ hlt, h1⟩
    ·rcases h with h | ⟨h, h'⟩
     ·exact .inl h
     ·refine .inr ⟨h, ?_⟩
      rcases h' with ⟨b0, cap, o, hb0, hc, h1, h2, h3, h4⟩ | h'
      ·exact .inl ⟨b0, cap, o, hb0, hc, h1, h2, h3, fun hq => Nat.le_trans (h4 hq) (hs b0 hb0)⟩
      ·exact .inr h'
 | .mref d j, c, h => by
  have hb := hB d j
  simp only [VRel] at h ⊢
  cases hE : B d j with
  | out => rw [hE] at h; exact h.elim
  | dead => rw [hE] at hb h; simp only [EntLe] at hb; rw [hb]; exact h
  | row b ep esz => rw [hE] at h; exact h.elim
  | loop l => rw [hE] at h; exact h.elim
  | it l => rw [hE] at h; exact h.elim
  | mp l =>
   rw [hE] at h hb
   simp only [EntLe] at hb
   rcases hb with hb | hb
   ·rw [hb]; simp only at h; exact ⟨l, h⟩
   ·rw [hb]; exact h
 | .yield d j, c, h => by
  have hb := hB d j
  simp only [VRel] at h ⊢
  cases hE : B d j with
  | out => rw [hE] at h; exact h.elim
  | dead => rw [hE] at hb h; simp only [EntLe] at hb; rw [hb]; exact h
  | row b ep esz => rw [hE] at h; exact h.elim
  | mp l => rw [hE] at h; exact h.elim
  | it l =>
   rw [hE] at h hb
   simp only [EntLe] at hb
   rcases hb with hb | hb
   ·rw [hb]; simp only at h; exact .inr ⟨_, h⟩
   ·rw [hb]; exact h
  | loop l =>
   rw [hE] at h hb
   simp only [EntLe] at hb
   rcases hb with hb | hb
   ·rw [hb]; simp only at h; exact .inl ⟨l, h⟩
   ·rw [hb]; exact h
 | .pcon cells off, c, h => by
  simp only [VRel] at h ⊢
  obtain ⟨b, base, hc, hr⟩ := h
  exact ⟨b, base, hc, CRel.mono hok b cells base hr⟩
 | .scon cells off len full, c, h => by
  simp only [VRel] at h ⊢
  rcases h with ⟨b, base, cap, o, hc, h1, h2, h3, hr⟩ | h
  ·exact .inl ⟨b, base, cap, o, hc, h1, h2, h3, CRel.mono hok b cells base hr⟩
  ·exact .inr h
 | .func fn a b, c, h => by
  simp only [VRel] at h ⊢
  obtain ⟨a', b', hc, ha, hb⟩ := h
  exact ⟨a', b', hc, VRelL.mono hok hB a a' ha, VRelL.mono hok hB b b' hb⟩
 | .iface t x, c, h => by
  simp only [VRel] at h ⊢
  obtain ⟨x', hc, hx⟩ := h
  exact ⟨x', hc, VRel.mono hok hB x x' hx⟩
 | .agg cs, c, h => by
  simp only [VRel] at h ⊢
  obtain ⟨cs', hc, hx⟩ := h
  exact ⟨cs', hc, ORelL.mono hok hB cs cs' hx⟩
 | .tuple cs, c, h => by
  simp only [VRel] at h ⊢
  obtain ⟨cs', hc, hx⟩ := h
  exact ⟨cs', hc, VRelL.mono hok hB cs cs' hx⟩
theorem VRelL.mono (hok : OkLe ok ok' w w') {B B' : Bd} (hB : ∀ d j, EntLe w w' (B d j) (B' d j)) : ∀ (l : List V) (l' : List Value), VRelL ok w B l l' → VRelL ok' w' B' l l'
 | [], l', h => by simp only [VRelL] at h ⊢; exact h
 | v :: r, l', h => by
  simp only [VRelL] at h ⊢
  obtain ⟨c, r', rfl, hv, hr⟩ := h
  exact ⟨c, r', rfl, VRel.mono hok hB v c hv, VRelL.mono hok hB r r' hr⟩
theorem ORelL.mono (hok : OkLe ok ok' w w') {B B' : Bd} (hB : ∀ d j, EntLe w w' (B d j) (B' d j)) : ∀ (l : List V) (l' : List Value), ORelL ok w B l l' → ORelL ok' w' B' l l'
 | [], l', h => by simp only [ORelL] at h ⊢; exact h
 | v :: r, l', h => by
  simp only [ORelL] at h ⊢
  obtain ⟨c, r', rfl, h1, hv, hr⟩ := h
  exact ⟨c, r', rfl, h1, VRel.mono hok hB v c hv, ORelL.mono hok hB r r' hr⟩
theorem CRel.mono (hok : OkLe ok ok' w w') (b : Nat) : ∀ (l : List V) (i : Nat), CRel ok w b i l → CRel ok' w' b i l
 | [], i, h => by simp only [CRel]
 | v :: r, i, h => by
  simp only [CRel] at h ⊢
  obtain ⟨⟨c, hc, h1, ⟨n, hn, hb⟩, hv⟩, hr⟩ := h
  obtain ⟨g1, g2⟩ := hok b n hb (lt_of_cell hc)
  exact ⟨⟨c, (g2 i hn).trans hc, h1, ⟨n, hn, g1⟩, VRel.mono hok (B := Bd.none_) (B' := Bd.none_) (fun _ _ => trivial) v c hv⟩, CRel.mono hok b r (i + 1) hr⟩
end
end mono
end Go.Sim
end
section
namespace Go.Sim
open Go
section
variable {ok : Nat → Nat → Prop} {w : World}
mutual
theorem VRel.flat {B B' : Bd} : ∀ (v : V) (c : Value), V.flat v = true → VRel ok w B v c → VRel ok w B' v c
 | .bool _, _, _, h | .int _ _, _, _, h | .float _ _, _, _, h | .str _, _, _, h | .nilptr, _, _, h | .nilslice, _, _, h | .nilfunc, _, _, h
 | .niliface, _, _, h | .nilmap, _, _, h | .pcon _ _, _, _, h | .scon _ _ _ _, _, _, h => h
 | .poison, _, f, _ | .pref _ _ _ _, _, f, _ | .sref _ _ _ _ _ _, _, f, _ | .mref _ _, _, f, _ | .yield _ _, _, f, _ => by simp [V.flat] at f
 | .func fn a b, c, f, h => by
  simp only [V.flat, Bool.and_eq_true] at f
  simp only [VRel] at h ⊢
  obtain ⟨a', b', hc, ha, hb⟩ := h
  exact ⟨a', b', hc, VRelL.flat a a' f.1 ha, VRelL.flat b b' f.2 hb⟩
 | .iface t x, c, f, h => by
  simp only [V.flat] at f
  simp only [VRel] at h ⊢
  obtain ⟨x', hc, hx⟩ := h
  exact ⟨x', hc, VRel.flat x x' f hx⟩
 | .agg cs, c, f, h => by
  simp only [V.flat] at f
  simp only [VRel] at h ⊢
  obtain ⟨cs', hc, hx⟩ := h
  exact ⟨cs', hc, ORelL.flat cs cs' f hx⟩
 | .tuple cs, c, f, h => by
  simp only [V.flat] at f
  simp only [VRel] at h ⊢
  obtain ⟨cs', hc, hx⟩ := h
  exact ⟨cs', hc, VRelL.flat cs cs' f hx⟩
theorem VRelL.flat {B B' : Bd} : ∀ (l : List V) (l' : List Value), V.flatL l = true → VRelL ok w B l l' → VRelL ok w B' l l'
 | [], l', _, h => by simp only [VRelL] at h ⊢; exact h
 | v :: r, l', f, h => by
  simp only [V.flatL, Bool.and_eq_true] at f
  simp only [VRelL] at h ⊢
  obtain ⟨c, r', rfl, hv, hr⟩ := h
  exact ⟨c, r', rfl, VRel.flat v c f.1 hv, VRelL.flat r r' f.2 hr⟩
theorem ORelL.flat {B B' : Bd} : ∀ (l : List V) (l' : List Value), V.flatL l = true → ORelL ok w B l l' → ORelL ok w B' l l'
 | [], l', _, h => by simp only [ORelL] at h ⊢; exact h
 | v :: r, l', f, h => by
  simp only [V.flatL, Bool.and_eq_true] at f
  simp only [ORelL] at h ⊢
  obtain ⟨c, r', rfl, h1, hv, hr⟩ := h
  exact ⟨c, r', rfl, h1, VRel.flat v c f.1 hv, ORelL.flat r r' f.2 hr⟩
end
mutual
theorem VRel.up {B : Bd} (n : Nat) : ∀ (v : V) (c : Value), VRel ok w (B.from_ n) v c → VRel ok w B (V.up n v) c
 | .bool _, _, h | .int _ _, _, h | .float _ _, _, h | .str _, _, h | .nilptr, _, h | .nilslice, _, h | .nilfunc, _, h
 | .niliface, _, h | .nilmap, _, h | .pcon _ _, _, h | .scon _ _ _ _, _, h | .poison, _, h => h
 | .pref d j o e, c, h => by simp only [V.up, VRel, Bd.from_, Nat.add_comm] at h ⊢; exact h
 | .sref d j o l e f, c, h => by simp only [V.up, VRel, Bd.from_, Nat.add_comm] at h ⊢; exact h
 | .yield d j, c, h => by simp only [V.up, VRel, Bd.from_, Nat.add_comm] at h ⊢; exact h
 | .mref d j, c, h => by simp only [V.up, VRel, Bd.from_, Nat.add_comm] at h ⊢; exact h
 | .func fn a b, c, h => by
  simp only [V.up, VRel] at h ⊢
  obtain ⟨a', b', hc, ha, hb⟩ := h
  exact ⟨a', b', hc, VRelL.up n a a' ha, VRelL.up n b b' hb⟩
 | .iface t x, c, h => by
  simp only [V.up, VRel] at h ⊢
  obtain ⟨x', hc, hx⟩ := h
  exact ⟨x', hc, VRel.up n x x' hx⟩
 | .agg cs, c, h => by
  simp only [V.up, VRel] at h ⊢
  obtain ⟨cs', hc, hx⟩ := h
  exact ⟨cs', hc, ORelL.up n cs cs' hx⟩
 | .tuple cs, c, h => by
  simp only [V.up, VRel] at h ⊢
  obtain ⟨cs', hc, hx⟩ := h
  exact ⟨cs', hc, VRelL.up n cs cs' hx⟩
theorem VRelL.up {B : Bd} (n : Nat) : ∀ (l : List V) (l' : List Value), VRelL ok w (B.from_ n) l l' → VRelL ok w B (V.upL n l) l'
 | [], l', h => by simp only [V.upL, VRelL] at h ⊢; exact h
 | v :: r, l', h => by
  simp only [V.upL, VRelL] at h ⊢
  obtain ⟨c, r', rfl, hv, hr⟩ := h
  exact ⟨c, r', rfl, VRel.up n v c hv, VRelL.up n r r' hr⟩
theorem ORelL.up {B : Bd} (n : Nat) : ∀ (l : List V) (l' : List Value), ORelL ok w (B.from_ n) l l' → ORelL ok w B (V.upL n l) l'
 | [], l', h => by simp only [V.upL, ORelL] at h ⊢; exact h
 | v :: r, l', h => by
  simp only [V.upL, ORelL] at h ⊢
  obtain ⟨c, r', rfl, h1, hv, hr⟩ := h
  exact ⟨c, r', rfl, h1, VRel.up n v c hv, ORelL.up n r r' hr⟩
end
mutual
theorem VRel.down {B : Bd} (n : Nat) : ∀ (v v' : V) (c : Value), V.down n v = some v' → VRel ok w B v c → VRel ok w (B.from_ n) v' c
 | .bool _, _, _, e, h | .int _ _, _, _, e, h | .float _ _, _, _, e, h | .str _, _, _, e, h | .nilptr, _, _, e, h | .nilslice, _, _, e, h | .nilfunc, _, _, e, h
 | .niliface, _, _, e, h | .nilmap, _, _, e, h | .pcon _ _, _, _, e, h | .scon _ _ _ _, _, _, e, h | .poison, _, _, e, h => by
  simp only [V.down, Option.some.injEq] at e; subst e; exact h
 | .pref d j o e, v', c, q, h => by
  simp only [V.down] at q
  split at q
  ·rename_i hle
   simp only [Option.some.injEq] at q; subst q
   simp only [VRel, Bd.from_, Nat.add_sub_cancel' hle] at h ⊢; exact h
  ·cases q
 | .sref d j o l e f, v', c, q, h => by
  simp only [V.down] at q
  split at q
  ·rename_i hle
   simp only [Option.some.injEq] at q; subst q
   simp only [VRel, Bd.from_, Nat.add_sub_cancel' hle] at h ⊢; exact h
  ·cases q
 | .yield d j, v', c, q, h => by
  simp only [V.down] at q
  split at q
  ·rename_i hle
   simp only [Option.some.injEq] at q; subst q
   simp only [VRel, Bd.from_, Nat.add_sub_cancel' hle] at h ⊢; exact h
  ·cases q
 | .mref d j, v', c, q, h => by
  simp only [V.down] at q
  split at q
  ·rename_i hle
   simp only [Option.some.injEq] at q; subst q
   simp only [VRel, Bd.from_, Nat.add_sub_cancel' hle] at h ⊢; exact h
  ·cases q
 | .func fn a b, v', c, q, h => by
  simp only [V.down, Option.bind_eq_some_iff, Option.some.injEq] at q
  obtain ⟨a1, qa, b1, qb, rfl⟩ := q
  simp only [VRel] at h ⊢
  obtain ⟨a', b', hc, ha, hb⟩ := h
  exact ⟨a', b', hc, VRelL.down n a a1 a' qa ha, VRelL.down n b b1 b' qb hb⟩
 | .iface t x, v', c, q, h => by
  simp only [V.down, Option.bind_eq_some_iff, Option.some.injEq] at q
  obtain ⟨x1, qx, rfl⟩ := q
  simp only [VRel] at h ⊢
  obtain ⟨x', hc, hx⟩ := h
  exact ⟨x', hc, VRel.down n x x1 x' qx hx⟩
 | .agg cs, v', c, q, h => by
  simp only [V.down, Option.bind_eq_some_iff, Option.some.injEq] at q
  obtain ⟨x1, qx, rfl⟩ := q
  simp only [VRel] at h ⊢
  obtain ⟨cs', hc, hx⟩ := h
  exact ⟨cs', hc, ORelL.down n cs x1 cs' qx hx⟩
 | .tuple cs, v', c, q, h => by
  simp only [V.down, Option.bind_eq_some_iff, Option.some.injEq] at q
  obtain ⟨x1, qx, rfl⟩ := q
  simp only [VRel] at h ⊢
  obtain ⟨cs', hc, hx⟩ := h
  exact ⟨cs', hc, VRelL.down n cs x1 cs' qx hx⟩
theorem VRelL.down {B : Bd} (n : Nat) : ∀ (l l1 : List V) (l' : List Value), V.downL n l = some l1 → VRelL ok w B l l' → VRelL ok w (B.from_ n) l1 l'
 | [], l1, l', q, h => by simp only [V.downL, Option.some.injEq] at q; subst q; simp only [VRelL] at h ⊢; exact h
 | v :: r, l1, l', q, h => by
  simp only [V.downL, Option.bind_eq_some_iff, Option.some.injEq] at q
  obtain ⟨v1, qv, r1, qr, rfl⟩ := q
  simp only [VRelL] at h ⊢
  obtain ⟨c, r', rfl, hv, hr⟩ := h
  exact ⟨c, r', rfl, VRel.down n v v1 c qv hv, VRelL.down n r r1 r' qr hr⟩
theorem ORelL.down {B : Bd} (n : Nat) : ∀ (l l1 : List V) (l' : List Value), V.downL n l = some l1 → ORelL ok w B l l' → ORelL ok w (B.from_ n) l1 l'
 | [], l1, l', q, h => by simp only [V.downL, Option.some.injEq] at q; subst q; simp only [ORelL] at h ⊢; exact h
 | v :: r, l1, l', q, h => by
  simp only [V.downL, Option.bind_eq_some_iff, Option.some.injEq] at q
  obtain ⟨v1, qv, r1, qr, rfl⟩ := q
  simp only [ORelL] at h ⊢
  obtain ⟨c, r', rfl, h1, hv, hr⟩ := h
  exact ⟨c, r', rfl, h1, VRel.down n v v1 c qv hv, ORelL.down n r r1 r' qr hr⟩
end
theorem Bd.from_zero (B : Bd) : B.from_ 0 = B := by funext d j; simp [Bd.from_]
theorem VRelL.length {B : Bd} : ∀ {l : List V} {l' : List Value}, VRelL ok w B l l' → l.length = l'.length
 | [], l', h => by simp only [VRelL] at h; simp [h]
 | v :: r, l', h => by
  simp only [VRelL] at h
  obtain ⟨c, r', rfl, _, hr⟩ := h
  simp [VRelL.length hr]
theorem ORelL.length {B : Bd} : ∀ {l : List V} {l' : List Value}, ORelL ok w B l l' → l.length = l'.length
 | [], l', h => by simp only [ORelL] at h; simp [h]
 | v :: r, l', h => by
  simp only [ORelL] at h
  obtain ⟨c, r', rfl, _, _, hr⟩ := h
  simp [ORelL.length hr]
theorem VRelL.get {B : Bd} : ∀ {l : List V} {l' : List Value}, VRelL ok w B l l' → ∀ {i : Nat} {v : V}, l[i]? = some v → ∃ c, l'[i]? = some c ∧ VRel ok w B v c
 | [], l', h, i, v, hi => by simp at hi
 | x :: r, l', h, i, v, hi => by
  simp only [VRelL] at h
  obtain ⟨c, r', rfl, hv, hr⟩ := h
  cases i with
  | zero => simp at hi; subst hi; exact ⟨c, rfl, hv⟩
  | succ i => simp at hi; simpa using VRelL.get hr hi
theorem ORelL.get {B : Bd} : ∀ {l : List V} {l' : List Value}, ORelL ok w B l l' → ∀ {i : Nat} {v : V}, l[i]? = some v → ∃ c, l'[i]? = some c ∧ one c = true ∧ VRel ok w B v c
 | [], l', h, i, v, hi => by simp at hi
 | x :: r, l', h, i, v, hi => by
  simp only [ORelL] at h
  obtain ⟨c, r', rfl, h1, hv, hr⟩ := h
  cases i with
  | zero => simp at hi; subst hi; exact ⟨c, rfl, h1, hv⟩
  | succ i => simp at hi; simpa using ORelL.get hr hi
theorem VRelL.set {B : Bd} : ∀ {l : List V} {l' : List Value}, VRelL ok w B l l' → ∀ (i : Nat) {v : V} {c : Value}, VRel ok w B v c → VRelL ok w B (l.set i v) (l'.set i c)
 | [], l', h, i, v, c, _ => by simp only [VRelL] at h; subst h; simp [VRelL]
 | x :: r, l', h, i, v, c, hv => by
  simp only [VRelL] at h
  obtain ⟨c0, r', rfl, hx, hr⟩ := h
  cases i with
  | zero => simp only [List.set_cons_zero, VRelL]; exact ⟨c, r', rfl, hv, hr⟩
  | succ i => simp only [List.set_cons_succ, VRelL]; exact ⟨c0, _, rfl, hx, VRelL.set hr i hv⟩
theorem VRelL.append {B : Bd} : ∀ {a : List V} {a' : List Value} {b : List V} {b' : List Value}, VRelL ok w B a a' → VRelL ok w B b b' → VRelL ok w B (a ++ b) (a' ++ b')
 | [], a', b, b', h, h2 => by simp only [VRelL] at h; subst h; exact h2
 | x :: r, a', b, b', h, h2 => by
  simp only [VRelL] at h
  obtain ⟨c0, r', rfl, hx, hr⟩ := h
  simp only [List.cons_append, VRelL]
  exact ⟨c0, _, rfl, hx, VRelL.append hr h2⟩
theorem ORelL.append {B : Bd} : ∀ {a : List V} {a' : List Value} {b : List V} {b' : List Value}, ORelL ok w B a a' → ORelL ok w B b b' → ORelL ok w B (a ++ b) (a' ++ b')
 | [], a', b, b', h, h2 => by simp only [ORelL] at h; subst h; exact h2
 | x :: r, a', b, b', h, h2 => by
  simp only [ORelL] at h
  obtain ⟨c0, r', rfl, h1, hx, hr⟩ := h
  simp only [List.cons_append, ORelL]
  exact ⟨c0, _, rfl, h1, hx, ORelL.append hr h2⟩
theorem ORelL.take {B : Bd} : ∀ {a : List V} {a' : List Value} (n : Nat), ORelL ok w B a a' → ORelL ok w B (a.take n) (a'.take n)
 | [], a', n, h => by simp only [ORelL] at h; subst h; simp [ORelL]
 | x :: r, a', n, h => by
  simp only [ORelL] at h
  obtain ⟨c0, r', rfl, h1, hx, hr⟩ := h
  cases n with
  | zero => simp [ORelL]
  | succ n => simp only [List.take_succ_cons, ORelL]; exact ⟨c0, _, rfl, h1, hx, ORelL.take n hr⟩
theorem ORelL.drop {B : Bd} : ∀ {a : List V} {a' : List Value} (n : Nat), ORelL ok w B a a' → ORelL ok w B (a.drop n) (a'.drop n)
 | [], a', n, h => by simp only [ORelL] at h; subst h; simp [ORelL]
 | x :: r, a', n, h => by
  simp only [ORelL] at h
  obtain ⟨c0, r', rfl, h1, hx, hr⟩ := h
  cases n with
  | zero => simp only [List.drop_zero, ORelL]; exact ⟨c0, r', rfl, h1, hx, hr⟩
  | succ n => simpa using ORelL.drop n hr
theorem ORelL.set {B : Bd} : ∀ {l : List V} {l' : List Value}, ORelL ok w B l l' → ∀ (i : Nat) {v : V} {c : Value}, one c = true → VRel ok w B v c → ORelL ok w B (l.set i v) (l'.set i c)
 | [], l', h, i, v, c, _, _ => by simp only [ORelL] at h; subst h; simp [ORelL]
 | x :: r, l', h, i, v, c, h1, hv => by
  simp only [ORelL] at h
  obtain ⟨c0, r', rfl, h0, hx, hr⟩ := h
  cases i with
  | zero => simp only [List.set_cons_zero, ORelL]; exact ⟨c, r', rfl, h1, hv, hr⟩
  | succ i => simp only [List.set_cons_succ, ORelL]; exact ⟨c0, _, rfl, h0, hx, ORelL.set hr i h1 hv⟩
theorem ORelL.vrel {B : Bd} : ∀ {l : List V} {l' : List Value}, ORelL ok w B l l' → VRelL ok w B l l'
 | [], l', h => by simp only [ORelL] at h; simp only [VRelL]; exact h
 | x :: r, l', h => by
  simp only [ORelL] at h
  obtain ⟨c0, r', rfl, h1, hx, hr⟩ := h
  simp only [VRelL]
  exact ⟨c0, r', rfl, hx, ORelL.vrel hr⟩
theorem CRel.drop {b : Nat} : ∀ {l : List V} {i : Nat} (n : Nat), CRel ok w b i l → CRel ok w b (i + n) (l.drop n)
 | [], i, n, _ => by simp [CRel]
 | v :: r, i, 0, h => h
 | v :: r, i, n + 1, h => by
  simp only [CRel] at h
  have := CRel.drop n h.2
  rwa [show i + 1 + n = i + (n + 1) from by omega] at this
theorem CRel.take {b : Nat} : ∀ {l : List V} {i : Nat} (n : Nat), CRel ok w b i l → CRel ok w b i (l.take n)
 | [], i, n, _ => by simp [CRel]
 | v :: r, i, 0, h => by simp [CRel]
 | v :: r, i, n + 1, h => by
  simp only [CRel, List.take_succ_cons] at h ⊢
  exact ⟨h.1, CRel.take n h.2⟩
theorem CRel.cut {b : Nat} {l : List V} {i : Nat} (off len k : Nat) (h : CRel ok w b i l) : CRel ok w b (i + off) (cutCells l off len k) := by
 unfold cutCells
 split
 ·exact CRel.drop off h
 ·exact CRel.take _ (CRel.drop off h)
theorem CRel.get {b : Nat} : ∀ {l : List V} {i : Nat}, CRel ok w b i l → ∀ {k : Nat} {v : V}, l[k]? = some v → ∃ c, w.cell? ⟨b, i + k, none⟩ = some c ∧ one c = true ∧ VRel ok w Bd.none_ v c
 | [], _, _, k, v, hk => by simp at hk
 | x :: r, i, h, k, v, hk => by
  simp only [CRel] at h
  obtain ⟨⟨c, hc, h1, _, hv⟩, hr⟩ := h
  cases k with
  | zero => simp at hk; subst hk; exact ⟨c, by simpa using hc, h1, hv⟩
  | succ k =>
   simp at hk
   obtain ⟨c', hc', h1', hv'⟩ := CRel.get hr hk
   exact ⟨c', by rw [show i + (k + 1) = i + 1 + k from by omega]; exact hc', h1', hv'⟩
end
end Go.Sim
end
section
namespace Go.Sim
open Go
def noRange : Code → Bool
 | .rangeFunc .. | .scope _ => false
 | .seq a b => noRange a && noRange b
 | .cond _ a b => noRange a && noRange b
 | .block _ c => noRange c
 | .loop c => noRange c
 | _ => true
def goodCode (p : Array Oper → Bool) : Code → Bool
 | .region _ ops draw => !draw || p ops
 | .seq a b => goodCode p a && goodCode p b
 | .cond _ a b => goodCode p a && goodCode p b
 | .block _ c => goodCode p c
 | .loop c => goodCode p c
 | .scope c => goodCode p c
 | .rangeFunc _ _ a b => goodCode p a && goodCode p b && noRange a && noRange b
 | _ => true
def MapR : Nat → List (V × V) → List MapEntry → Prop
 | _, [], l => l = []
 | n, (k, v) :: r, l => ∃ e l', l = e :: l' ∧ (V.plain k = true ∧ e.born = n) ∧ V.plain v = true ∧ (∀ ok w B, VRel ok w B k e.key) ∧ (∀ ok w B, VRel ok w B v e.val) ∧ MapR (n + 1) r l'
def RowR (ok : Nat → Nat → Prop) (w : World) (B : Bd) (b : Option Nat) (cells : List V) : Prop :=
 match b with
 | none => cells = []
 | some b => ∃ (c : Array Value) (el : TypeId) (lo hi : Nat), w.heap[b]? = some (.cells c el (lo, hi)) ∧ (lo = hi ∨ c.size ≤ lo) ∧
   ∃ c1 c2 : List Value, c.toList = c1 ++ c2 ∧ ORelL ok w B cells c1
def LoopR (ok : Nat → Nat → Prop) (w : World) (B : Bd) (p : Array Oper → Bool) (fn : FuncId) (tmps : List V) (ps : List Tmp) (a c : Code) (r : Bool) (pd : Option Code) (L : Loop) : Prop :=
 L.params.toList = ps ∧ L.assign = a ∧ L.body = c ∧ VRelL ok w B tmps L.tmps.toList ∧ (goodCode p a = true ∧ noRange a = true) ∧ (goodCode p c = true ∧ noRange c = true) ∧
 ((r = true ∧ pd = none ∧ L.state = .ready ∧ L.pending = none) ∨ (r = false ∧ pd = none ∧ L.state = .busy) ∨ (∃ c, r = false ∧ pd = some c ∧ L.state = .done ∧ L.pending = some c ∧ goodCode p c = true))
def BlkR (ok : Nat → Nat → Prop) (w : World) (B : Bd) (p : Array Oper → Bool) (e : Ent) (ob : Option Blk) : Prop :=
 match e with
 | .out => True
 | .dead => ob = some .dead
 | .row b ep esz => ∃ cells flat plain, ob = some (.row cells ep esz flat plain) ∧ (flat = true → V.flatL cells = true) ∧ (plain = true → V.plainL cells = true) ∧ RowR ok w B b cells
 | .mp b => ∃ es, ob = some (.mp es) ∧ ∃ (entries : Array MapEntry) (clock : Nat), w.heap[b]? = some (.map entries clock) ∧ clock = es.length ∧ MapR 0 es entries.toList
 | .it b => ∃ m since seen last, ob = some (.it m since seen last) ∧ ∀ d j, m = some (d, j) → (B d j = .dead ∨ ∃ mb, B d j = .mp mb ∧ w.heap[b]? = some (.mapIter (some mb) since seen.toArray last))
 | .loop l => ∃ fn tmps ps a c r pd L, ob = some (.loop fn tmps ps a c r pd) ∧ w.heap[l]? = some (.loop L) ∧ LoopR ok w B p fn tmps ps a c r pd L
def tb64 : List V := ([0, 1, 56, 2, 57, 49, 28, 3, 61, 58, 42, 50, 38, 29, 17, 4, 62, 47, 59, 36, 45, 43, 51, 22, 53, 39, 33, 30, 24, 18, 12, 5, 63, 55, 48, 27, 60, 41, 37, 16, 46, 35, 44, 21, 52, 32, 23, 11, 54, 26, 40, 15, 34, 20, 31, 10, 25, 14, 19, 9, 13, 8, 7, 6] : List Int).map (.int .u8)
def markOps (g : Nat) : Array Oper := #[{ dst := none, op := .ready g, type := 0, pos := "", after := #[], guard := none }, { dst := none, op := .waits g, type := 0, pos := "", after := #[], guard := none }]
def Gl (p : Array Oper → Bool) (ok : Nat → Nat → Prop) (w : World) : Prop := ∀ g, p (markOps g) = false → CRel ok w g 0 tb64
theorem Gl.mono {p : Array Oper → Bool} {ok ok' : Nat → Nat → Prop} {w w' : World} (hg : Gl p ok w) (hok : OkLe ok ok' w w') : Gl p ok' w' := fun g h => CRel.mono hok g tb64 0 (hg g h)
def Ent.pre (e : Ent) (n : Nat) : Prop :=
 match e with
 | .row _ _ esz => n ≤ esz / 4294967296
 | _ => False
structure HR (ok : Nat → Nat → Prop) (w : World) (B : Bd) (p : Array Oper → Bool) (h : Heap) : Prop where
 pos : 0 < h.length
 blk : ∀ d j, BlkR ok w (B.from_ d) p (B d j) (h.get d j)
 inj : ∀ d j d' j' b, (B d j).blk = some b → (B d' j').blk = some b → d = d' ∧ j = j'
 lt : ∀ d j b, (B d j).blk = some b → b < w.heap.size
 okn : ∀ b n, ok b n → b < w.heap.size ∧ ∀ d j, (B d j).blk = some b → (B d j).pre n
 gl : Gl p ok w
structure Ext (ok : Nat → Nat → Prop) (B : Bd) (w : World) (ok' : Nat → Nat → Prop) (B' : Bd) (w' : World) : Prop where
 size : w.heap.size ≤ w'.heap.size
 os : w'.os = w.os
 tape : w'.tape = w.tape
 output : w'.output = w.output
 same : ∀ b, b < w.heap.size → (∀ d j, (B d j).blk ≠ some b) → w'.heap[b]? = w.heap[b]?
 okLe : OkLe ok ok' w w'
 okOf : ∀ b n, b < w.heap.size → ok' b n → ok b n ∨ ∃ d j, (B d j).blk = some b
 ent : ∀ d j, EntLe w w' (B d j) (B' d j)
 new : ∀ d j b, (B' d j).blk = some b → b < w.heap.size → (B d j).blk = some b
section
variable {ok ok' ok'' : Nat → Nat → Prop} {w w' w'' : World} {B B' B'' : Bd} {p : Array Oper → Bool} {h : Heap} {d0 j0 : Nat} {e : Ent}
theorem EntLe.trans {a b c : Ent} (h1 : EntLe w w' a b) (h2 : EntLe w' w'' b c) : EntLe w w'' a c := by
 cases a with
 | out => trivial
 | dead => simp only [EntLe] at h1; subst h1; exact h2
 | loop l =>
  simp only [EntLe] at h1 ⊢
  rcases h1 with rfl | rfl
  ·simp only [EntLe] at h2; exact .inl h2
  ·exact h2
 | mp l =>
  simp only [EntLe] at h1 ⊢
  rcases h1 with rfl | rfl
  ·simp only [EntLe] at h2; exact .inl h2
  ·exact h2
 | it l =>
  simp only [EntLe] at h1 ⊢
  rcases h1 with rfl | rfl
  ·simp only [EntLe] at h2; exact .inl h2
  ·exact h2
 | row x ep esz =>
  simp only [EntLe] at h1 ⊢
  rcases h1 with rfl | ⟨b', ep', esz', rfl, hc⟩
  ·simp only [EntLe] at h2; exact .inl h2
  ·simp only [EntLe] at h2
   rcases h2 with rfl | ⟨b'', ep'', esz'', rfl, hc'⟩
   ·exact .inl rfl
   ·refine .inr ⟨b'', ep'', esz'', rfl, ?_⟩
    rcases hc with hlt | ⟨rfl, rfl, hs⟩
    ·rcases hc' with hlt' | ⟨rfl, _, _⟩
     ·exact .inl (Nat.lt_trans hlt hlt')
     ·exact .inl hlt
    ·rcases hc' with hlt' | ⟨rfl, rfl, hs'⟩
     ·exact .inl hlt'
     ·exact .inr ⟨rfl, rfl, fun b0 hb => Nat.le_trans (hs b0 hb) (hs' b0 hb)⟩
theorem OkLe.refl (ok : Nat → Nat → Prop) (w : World) : OkLe ok ok w w := fun _ _ h _ => ⟨h, fun _ _ => rfl⟩
theorem OkLe.heap {ok ok' : Nat → Nat → Prop} {w w' : World} (ho : ∀ b n, ok b n → ok' b n) (h : ∀ b n, ok b n → w'.heap[b]? = w.heap[b]?) : OkLe ok ok' w w' := fun b n hb _ => ⟨ho b n hb, fun _ _ => cell?_of_heap (h b n hb)⟩
theorem OkLe.row (hh : HR ok w B p h) {b1 : Nat} (hb1 : ∀ n, ok b1 n → ∀ i, i < n → w'.cell? ⟨b1, i, none⟩ = w.cell? ⟨b1, i, none⟩) (hs : ∀ b, b < w.heap.size → b ≠ b1 → w'.heap[b]? = w.heap[b]?) : OkLe ok ok w w' := fun b n hb hlt => by
 refine ⟨hb, fun i hi => ?_⟩
 by_cases he : b = b1
 ·subst he; exact hb1 n hb i hi
 ·exact cell?_of_heap (hs b hlt he)
theorem HR.frozen (hh : HR ok w B p h) {b1 n d j : Nat} (hk : (B d j).blk = some b1) (hb : ok b1 n) : (B d j).pre n := (hh.okn b1 n hb).2 d j hk
theorem Ext.refl (ok : Nat → Nat → Prop) (B : Bd) (w : World) : Ext ok B w ok B w :=
 ⟨Nat.le_refl _, rfl, rfl, rfl, fun _ _ _ => rfl, OkLe.refl _ _, fun _ _ _ h => .inl h, fun d j => EntLe.refl _ (fun _ _ => Nat.le_refl _), fun _ _ _ hb _ => hb⟩
theorem Ext.trans (a : Ext ok B w ok' B' w') (b : Ext ok' B' w' ok'' B'' w'') : Ext ok B w ok'' B'' w'' where
 size := Nat.le_trans a.size b.size
 os := b.os.trans a.os
 tape := b.tape.trans a.tape
 output := b.output.trans a.output
 same := fun k hk hu => (b.same k (Nat.lt_of_lt_of_le hk a.size) (fun d j hm => hu d j (a.new d j k hm hk))).trans (a.same k hk hu)
 okLe := fun k n hk hlt => by
  obtain ⟨h1, h2⟩ := a.okLe k n hk hlt
  obtain ⟨h3, h4⟩ := b.okLe k n h1 (Nat.lt_of_lt_of_le hlt a.size)
  exact ⟨h3, fun i hi => (h4 i hi).trans (h2 i hi)⟩
 okOf := fun k n hlt hk => by
  rcases b.okOf k n (Nat.lt_of_lt_of_le hlt a.size) hk with h | ⟨d, j, h⟩
  ·exact a.okOf k n hlt h
  ·exact .inr ⟨d, j, a.new d j k h hlt⟩
 ent := fun d j => (a.ent d j).trans (b.ent d j)
 new := fun d j k hm hk => a.new d j k (b.new d j k hm (Nat.lt_of_lt_of_le hk a.size)) hk
theorem Ext.vrel (hx : Ext ok B w ok' B' w') (hh : HR ok w B p h) {v : V} {c : Value} (hv : VRel ok w B v c) : VRel ok' w' B' v c :=
 VRel.mono hx.okLe hx.ent v c hv
theorem Ext.vrelL (hx : Ext ok B w ok' B' w') (hh : HR ok w B p h) {v : List V} {c : List Value} (hv : VRelL ok w B v c) : VRelL ok' w' B' v c :=
 VRelL.mono hx.okLe hx.ent v c hv
theorem Ext.orelL (hx : Ext ok B w ok' B' w') (hh : HR ok w B p h) {v : List V} {c : List Value} (hv : ORelL ok w B v c) : ORelL ok' w' B' v c :=
 ORelL.mono hx.okLe hx.ent v c hv
theorem Ext.orelL_from (hx : Ext ok B w ok' B' w') (hh : HR ok w B p h) (d : Nat) {v : List V} {c : List Value} (hv : ORelL ok w (B.from_ d) v c) : ORelL ok' w' (B'.from_ d) v c :=
 ORelL.mono hx.okLe (fun d' j => hx.ent (d + d') j) v c hv
theorem Ext.vrelL_from (hx : Ext ok B w ok' B' w') (hh : HR ok w B p h) (d : Nat) {v : List V} {c : List Value} (hv : VRelL ok w (B.from_ d) v c) : VRelL ok' w' (B'.from_ d) v c :=
 VRelL.mono hx.okLe (fun d' j => hx.ent (d + d') j) v c hv
theorem HR.glm (hh : HR ok w B p h) (hok : ∀ b n, ok b n → ok' b n) (hs : ∀ b n, ok b n → w'.heap[b]? = w.heap[b]?) : Gl p ok' w' := hh.gl.mono (OkLe.heap hok hs)
theorem HR.glx (hh : HR ok w B p h) (hx : Ext ok B w ok' B' w') : Gl p ok' w' := hh.gl.mono hx.okLe
theorem BlkR.mono (hx : Ext ok B w ok' B' w') (hh : HR ok w B p h) (d j : Nat) (he : B' d j = B d j)
  (hsame : ∀ b, (B d j).blk = some b → w'.heap[b]? = w.heap[b]?) {ob : Option Blk} (hb : BlkR ok w (B.from_ d) p (B d j) ob) : BlkR ok' w' (B'.from_ d) p (B' d j) ob := by
 rw [he]
 revert hb hsame
 cases B d j with
 | out => intro _ _; trivial
 | dead => intro _ hb; exact hb
 | mp b =>
  rintro hsame ⟨es, h1, en, cl, h2, h3⟩
  exact ⟨es, h1, en, cl, (hsame b rfl).trans h2, h3⟩
 | it b =>
  rintro hsame ⟨m, since, seen, last, h1, h2⟩
  refine ⟨m, since, seen, last, h1, fun d' j' hm => ?_⟩
  have hent := hx.ent (d + d') j'
  rcases h2 d' j' hm with h | ⟨mb, h, h3⟩
  ·simp only [Bd.from_] at h ⊢
   rw [h] at hent
   exact .inl hent
  ·simp only [Bd.from_] at h ⊢
   rw [h] at hent
   rcases hent with hent | hent
   ·exact .inl hent
   ·exact .inr ⟨mb, hent, (hsame b rfl).trans h3⟩
 | row b ep esz =>
  rintro hsame ⟨cells, flat, plain, h1, h2, h3, h4⟩
  refine ⟨cells, flat, plain, h1, h2, h3, ?_⟩
  cases b with
  | none => exact h4
  | some b =>
   obtain ⟨c, el, lo, hi, g1, g2, c1, c2, g3, g4⟩ := h4
   exact ⟨c, el, lo, hi, (hsame b rfl).trans g1, g2, c1, c2, g3, hx.orelL_from hh d g4⟩
 | loop l =>
  rintro hsame ⟨fn, tmps, ps, a, c, r, pd, L, h1, h2, g2, g3, g4, g5, g6⟩
  exact ⟨fn, tmps, ps, a, c, r, pd, L, h1, (hsame l rfl).trans h2, g2, g3, g4, hx.vrelL_from hh d g5, g6⟩
theorem Ext.drew (ok : Nat → Nat → Prop) (B : Bd) (w : World) : Ext ok B w ok B w.drew :=
 ⟨Nat.le_refl _, rfl, rfl, rfl, fun _ _ _ => rfl, OkLe.refl _ _, fun _ _ _ h => .inl h, fun d j => EntLe.refl _ (fun _ _ => Nat.le_refl _), fun _ _ _ hb _ => hb⟩
theorem HR.drew (hh : HR ok w B p h) : HR ok w.drew B p h :=
 ⟨hh.pos, fun d j => BlkR.mono (Ext.drew ok B w) hh d j rfl (fun _ _ => rfl) (hh.blk d j), hh.inj, hh.lt, hh.okn, hh.glx (Ext.drew ok B w)⟩
def Bd.put (B : Bd) (d j : Nat) (e : Ent) : Bd := fun d' j' => if d' = d ∧ j' = j then e else B d' j'
theorem Bd.put_same (B : Bd) (d j : Nat) (e : Ent) : B.put d j e d j = e := by simp [Bd.put]
theorem Bd.put_other (B : Bd) {d j d' j' : Nat} (e : Ent) (hne : ¬(d' = d ∧ j' = j)) : B.put d j e d' j' = B d' j' := by simp [Bd.put, hne]
theorem heap_push_lt (w : World) (o : Obj) {b : Nat} (hb : b < w.heap.size) : (w.alloc o).heap[b]? = w.heap[b]? := by
 show (w.heap.push o)[b]? = _
 rw [Array.getElem?_push, if_neg (by omega)]
theorem heap_push_new (w : World) (o : Obj) : (w.alloc o).heap[w.heap.size]? = some o := by
 show (w.heap.push o)[w.heap.size]? = _
 simp
theorem Ext.alloc (hh : HR ok w B p h) (d j : Nat) (e : Ent) (ho : B d j = .out) (he : ∀ b, e.blk = some b → b = w.heap.size) (o : Obj) :
  Ext ok B w ok (B.put d j e) (w.alloc o) where
 size := by simp
 os := rfl
 tape := rfl
 output := rfl
 same := fun b hb _ => heap_push_lt w o hb
 okLe := OkLe.heap (fun _ _ h => h) fun b n hb => heap_push_lt w o (hh.okn b n hb).1
 okOf := fun _ _ _ h => .inl h
 ent := fun d' j' => by
  by_cases hq : d' = d ∧ j' = j
  ·obtain ⟨rfl, rfl⟩ := hq; rw [ho]; trivial
  ·rw [Bd.put_other B e hq]
   exact EntLe.refl _ fun b hb => by
    have := hh.lt _ _ _ hb
    simp only [csize, heap_push_lt w o this]; exact Nat.le_refl _
 new := fun d' j' b hb hlt => by
  by_cases hq : d' = d ∧ j' = j
  ·obtain ⟨rfl, rfl⟩ := hq
   rw [Bd.put_same] at hb
   have := he b hb; omega
  ·rwa [Bd.put_other B e hq] at hb
theorem Ext.allocNone (hh : HR ok w B p h) (o : Obj) : Ext ok B w ok B (w.alloc o) where
 size := by simp
 os := rfl
 tape := rfl
 output := rfl
 same := fun b hb _ => heap_push_lt w o hb
 okLe := OkLe.heap (fun _ _ h => h) fun b n hb => heap_push_lt w o (hh.okn b n hb).1
 okOf := fun _ _ _ h => .inl h
 ent := fun d' j' => EntLe.refl _ fun b hb => by
    have := hh.lt _ _ _ hb
    simp only [csize, heap_push_lt w o this]; exact Nat.le_refl _
 new := fun d' j' b hb hlt => hb
theorem HR.allocNone (hh : HR ok w B p h) (o : Obj) : HR ok (w.alloc o) B p h where
 pos := hh.pos
 blk := fun d j => BlkR.mono (Ext.allocNone hh o) hh d j rfl (fun b hb => heap_push_lt w o (hh.lt _ _ _ hb)) (hh.blk d j)
 inj := hh.inj
 lt := fun d j b hb => by have := hh.lt d j b hb; simp; omega
 okn := fun b n hb => ⟨by have := (hh.okn b n hb).1; simp; omega, (hh.okn b n hb).2⟩
 gl := hh.glx (Ext.allocNone hh o)
theorem HR.put (hx : Ext ok B w ok (B.put d0 j0 e) w') (hh : HR ok w B p h) {h' : Heap} (hpos : 0 < h'.length)
  (hsame : ∀ d j b, ¬(d = d0 ∧ j = j0) → (B d j).blk = some b → w'.heap[b]? = w.heap[b]?)
  (hget : ∀ d j, ¬(d = d0 ∧ j = j0) → B d j ≠ .out → h'.get d j = h.get d j)
  (hnew : ∀ b, e.blk = some b → b < w'.heap.size ∧ (∀ n, ok b n → e.pre n) ∧ ∀ d j, ¬(d = d0 ∧ j = j0) → (B d j).blk ≠ some b)
  (hblk : BlkR ok w' ((B.put d0 j0 e).from_ d0) p e (h'.get d0 j0)) : HR ok w' (B.put d0 j0 e) p h' where
 gl := hh.glx hx
 pos := hpos
 blk := fun d j => by
  by_cases hq : d = d0 ∧ j = j0
  ·obtain ⟨rfl, rfl⟩ := hq; rw [Bd.put_same]; exact hblk
  ·have h1 := BlkR.mono hx hh d j (Bd.put_other B e hq) (fun b hb => hsame d j b hq hb) (hh.blk d j)
   by_cases ho : B d j = .out
   ·rw [Bd.put_other B e hq, ho]; trivial
   ·rw [hget d j hq ho]; exact h1
 inj := fun d j d' j' b hb hb' => by
  by_cases hq : d = d0 ∧ j = j0
  ·by_cases hq' : d' = d0 ∧ j' = j0
   ·exact ⟨hq.1.trans hq'.1.symm, hq.2.trans hq'.2.symm⟩
   ·rw [Bd.put_other B e hq'] at hb'
    obtain ⟨rfl, rfl⟩ := hq
    rw [Bd.put_same] at hb
    exact absurd hb' ((hnew b hb).2.2 d' j' hq')
  ·rw [Bd.put_other B e hq] at hb
   by_cases hq' : d' = d0 ∧ j' = j0
   ·obtain ⟨rfl, rfl⟩ := hq'
    rw [Bd.put_same] at hb'
    exact absurd hb ((hnew b hb').2.2 d j hq)
   ·rw [Bd.put_other B e hq'] at hb'
    exact hh.inj d j d' j' b hb hb'
 lt := fun d j b hb => by
  by_cases hq : d = d0 ∧ j = j0
  ·obtain ⟨rfl, rfl⟩ := hq; rw [Bd.put_same] at hb; exact (hnew b hb).1
  ·rw [Bd.put_other B e hq] at hb; exact Nat.lt_of_lt_of_le (hh.lt d j b hb) hx.size
 okn := fun b n hb => ⟨Nat.lt_of_lt_of_le (hh.okn b n hb).1 hx.size, fun d j hm => by
  by_cases hq : d = d0 ∧ j = j0
  ·obtain ⟨rfl, rfl⟩ := hq; rw [Bd.put_same] at hm ⊢; exact (hnew b hm).2.1 n hb
  ·rw [Bd.put_other B e hq] at hm ⊢; exact (hh.okn b n hb).2 d j hm⟩
end
end Go.Sim
end
section
namespace Go.Sim
open Go
section
variable {P : Program} {w : World}
theorem r_under {t : TypeId} {d : TypeDesc} (h : P.underlying t = some d) : (underlying t).run P w = .ok d w := by simp [underlying, h]
theorem r_size {t : TypeId} {n : Nat} (h : sizeV P t = some n) : (sizeOf t).run P w = .ok n w := by
 unfold sizeV at h
 cases hi : P.info? t with
 | none => simp [hi] at h
 | some i => simp [hi] at h; simp [sizeOf, typeInfo, hi, h]
theorem r_bytes {t : TypeId} {n : Nat} (h : bytesV P t = some n) : ∃ i, P.info? t = some i ∧ i.bytes = n := by
 unfold bytesV at h
 cases hi : P.info? t with
 | none => simp [hi] at h
 | some i => simp [hi] at h; exact ⟨i, rfl, h⟩
theorem r_zero {t : TypeId} {z : V} (h : zeroV P t = some z) : ∃ zv, (zeroValue t).run P w = .ok zv w ∧ ofValue zv = some z := by
 unfold zeroV at h
 cases hi : P.info? t with
 | none => simp [hi] at h
 | some i =>
  simp only [hi, Option.bind_some] at h
  cases hz : i.zero with
  | none => simp [hz] at h
  | some zv => simp only [hz, Option.bind_some] at h; exact ⟨zv, by simp [zeroValue, typeInfo, hi, hz], h⟩
theorem r_isAgg {t : TypeId} {b : Bool} (h : isAggV P t = some b) : (isAgg t).run P w = .ok b w := by
 unfold isAggV at h
 cases hu : P.underlying t with
 | none => simp [hu] at h
 | some d => cases d <;> simp [hu] at h <;> subst h <;> simp [isAgg, r_under hu]
theorem loadN_eq : ∀ {n : Nat} {cells : List V} {off : Nat} {l : List V}, loadN cells off n = some l → l = (cells.drop off).take n ∧ off + n ≤ max off cells.length ∧ l.length = n
 | 0, cells, off, l, h => by simp only [loadN, Option.some.injEq] at h; subst h; simp; omega
 | n + 1, cells, off, l, h => by
  simp only [loadN, Option.bind_eq_some_iff, Option.some.injEq] at h
  obtain ⟨v, hv, r, hr, rfl⟩ := h
  obtain ⟨h1, h2, h3⟩ := loadN_eq hr
  have hlt : off < cells.length := by
   rcases Nat.lt_or_ge off cells.length with h | h
   ·exact h
   ·simp [List.getElem?_eq_none h] at hv
  refine ⟨?_, by omega, by simp [h3]⟩
  rw [List.getElem?_eq_getElem hlt] at hv
  simp only [Option.some.injEq] at hv
  rw [List.drop_eq_getElem_cons hlt, List.take_succ_cons, ← h1, hv]
variable {ok : Nat → Nat → Prop} {B : Bd}
theorem ofSimple_rel {c : Value} {v : V} (h : ofSimple c = some v) : VRel ok w B v c := by
 cases c with
 | bool b => simp [ofSimple] at h; subst h; simp [VRel]
 | int k n => simp [ofSimple] at h; subst h; simp [VRel]
 | float k n => simp [ofSimple] at h; subst h; simp [VRel]
 | string s => simp [ofSimple] at h; subst h; simp [VRel]
 | pointer a => cases a <;> simp [ofSimple] at h; subst h; simp [VRel]
 | slice a n c =>
  cases a with
  | some a => simp [ofSimple] at h
  | none => cases n with
   | succ n => simp [ofSimple] at h
   | zero => cases c with
    | succ c => simp [ofSimple] at h
    | zero => simp [ofSimple] at h; subst h; simp [VRel]
 | map r => cases r <;> simp [ofSimple] at h; subst h; simp [VRel]
 | nilFunc => simp [ofSimple] at h; subst h; simp [VRel]
 | nilIface => simp [ofSimple] at h; subst h; simp [VRel]
 | _ => simp [ofSimple] at h
theorem ofSimple_one {c : Value} {v : V} (h : ofSimple c = some v) : one c = true ∧ V.cell1 v = true := by
 cases c with
 | pointer a => cases a <;> simp [ofSimple] at h; subst h; exact ⟨rfl, rfl⟩
 | slice a n c =>
  cases a with
  | some a => simp [ofSimple] at h
  | none => cases n with
   | succ n => simp [ofSimple] at h
   | zero => cases c with
    | succ c => simp [ofSimple] at h
    | zero => simp [ofSimple] at h; subst h; exact ⟨rfl, rfl⟩
 | map r => cases r <;> simp [ofSimple] at h; subst h; exact ⟨rfl, rfl⟩
 | agg _ => simp [ofSimple] at h
 | tuple _ => simp [ofSimple] at h
 | _ => first | (simp [ofSimple] at h; subst h; exact ⟨rfl, rfl⟩) | (simp [ofSimple] at h)
theorem ofSimpleL_rel : ∀ {cs : List Value} {vs : List V}, ofSimpleL cs = some vs → ORelL ok w B vs cs
 | [], vs, h => by simp [ofSimpleL] at h; subst h; simp [ORelL]
 | c :: r, vs, h => by
  simp only [ofSimpleL, Option.bind_eq_some_iff, Option.some.injEq] at h
  obtain ⟨v, hv, r', hr, rfl⟩ := h
  simp only [ORelL]
  exact ⟨c, r, rfl, (ofSimple_one hv).1, ofSimple_rel hv, ofSimpleL_rel hr⟩
theorem ofValue_rel {c : Value} {v : V} (h : ofValue c = some v) : VRel ok w B v c := by
 cases c with
 | agg cs =>
  simp only [ofValue, Option.map_eq_some_iff] at h
  obtain ⟨l, hl, rfl⟩ := h
  simp only [VRel]
  exact ⟨cs.toList, by simp, ofSimpleL_rel hl⟩
 | iface t x =>
  simp only [ofValue, Option.map_eq_some_iff] at h
  obtain ⟨l, hl, rfl⟩ := h
  simp only [VRel]
  exact ⟨x, rfl, ofSimple_rel hl⟩
 | func fn a b =>
  cases fn with
  | func f =>
   simp only [ofValue] at h
   split at h
   ·rename_i hab
    simp only [Option.some.injEq] at h; subst h
    simp only [Bool.and_eq_true, Array.isEmpty_iff] at hab
    simp only [VRel]
    exact ⟨[], [], by simp [hab.1, hab.2], rfl, rfl⟩
   ·cases h
  | _ => simp [ofValue, ofSimple] at h
 | _ => exact ofSimple_rel (by simpa only [ofValue] using h)
theorem evalT_rel {tmps : List V} {a : Act} (h : VRelL ok w B tmps a.tmps.toList) (x : Operand) : VRel ok w B (evalT tmps x) (a.eval x) := by
 cases x with
 | tmp t =>
  simp only [evalT, Act.eval]
  by_cases hlt : t < tmps.length
  ·obtain ⟨c, hc, hv⟩ := h.get (i := t) (List.getElem?_eq_getElem hlt)
   rw [List.getD_eq_getElem?_getD, List.getElem?_eq_getElem hlt]
   have h1 : a.tmps[t]? = some c := by simpa using hc
   rw [Array.getD_eq_getD_getElem?, h1]
   exact hv
  ·have hge : tmps.length ≤ t := Nat.le_of_not_lt hlt
   rw [List.getD_eq_getElem?_getD, List.getElem?_eq_none hge]
   simp [VRel]
 | const v =>
  simp only [evalT, Act.eval]
  cases hv : ofValue v with
  | none => simp [VRel]
  | some v' => exact ofValue_rel hv
 | global g => simp [evalT, VRel]
 | func f => simp only [evalT, Act.eval, VRel]; exact ⟨[], [], rfl, rfl, rfl⟩
theorem VRel.pshape {d j o e : Nat} {c : Value} (h : VRel ok w B (.pref d j o e) c) : PShape c := by
 simp only [VRel] at h
 split at h
 ·exact h
 ·rcases h with ⟨_, h⟩ | ⟨_, b0, _, rfl⟩
  ·exact h
  ·exact ⟨_, rfl⟩
 ·exact h.elim
theorem VRel.sshape {d j o l e : Nat} {f : Nat × Bool} {c : Value} (h : VRel ok w B (.sref d j o l e f) c) : SShape l e c := by
 simp only [VRel] at h
 split at h
 ·exact h
 ·rcases h with ⟨_, h⟩ | ⟨_, ⟨b0, cap, o, _, rfl, h2, _⟩ | ⟨_, _, rfl, h0, rfl⟩⟩
  ·exact h
  ·exact ⟨_, _, rfl, h2, fun h => by cases h⟩
  ·exact ⟨none, 0, rfl, Nat.le_refl _, fun _ => ⟨rfl, h0⟩⟩
 ·exact h.elim
theorem VRel.mshape {d j : Nat} {c : Value} (h : VRel ok w B (.mref d j) c) : ∃ r, c = .map (some r) := by
 simp only [VRel] at h
 cases hE : B d j with
 | dead => rw [hE] at h; exact h
 | mp l => rw [hE] at h; exact ⟨l, h⟩
 | it l => rw [hE] at h; exact h.elim
 | out => rw [hE] at h; exact h.elim
 | row b ep esz => rw [hE] at h; exact h.elim
 | loop l => rw [hE] at h; exact h.elim
theorem VRel.yshape {d j : Nat} {c : Value} (h : VRel ok w B (.yield d j) c) : YShape c := by
 simp only [VRel] at h
 split at h
 ·exact h
 ·exact .inl ⟨_, h⟩
 ·exact .inr ⟨_, h⟩
 ·exact h.elim
theorem VRel.cell1 {v : V} {c : Value} (h1 : V.cell1 v = true) (h : VRel ok w B v c) : one c = true := by
 cases v with
 | poison => simp [V.cell1] at h1
 | agg cs => simp [V.cell1] at h1
 | tuple cs => simp [V.cell1] at h1
 | pref d j o e => obtain ⟨a, rfl⟩ := VRel.pshape h; rfl
 | sref d j o l e f => obtain ⟨a, cap, rfl, _⟩ := VRel.sshape h; rfl
 | yield d j => rcases VRel.yshape h with ⟨l, rfl⟩ | ⟨l, rfl⟩ <;> rfl
 | pcon cs o => simp only [VRel] at h; obtain ⟨b, base, rfl, _⟩ := h; rfl
 | scon cs o l f => simp only [VRel] at h; rcases h with ⟨b, base, cap, o, rfl, _⟩ | ⟨_, rfl⟩ <;> rfl
 | func fn a b => simp only [VRel] at h; obtain ⟨a', b', rfl, _⟩ := h; rfl
 | iface t x => simp only [VRel] at h; obtain ⟨x', rfl, _⟩ := h; rfl
 | mref d j => obtain ⟨_, rfl⟩ := VRel.mshape h; rfl
 | _ => simp only [VRel] at h; subst h; rfl
theorem VRelL.orel : ∀ {vs : List V} {cs : List Value}, okCells vs = true → VRelL ok w B vs cs → ORelL ok w B vs cs
 | [], cs, _, h => by simp only [VRelL] at h; simp only [ORelL]; exact h
 | v :: r, cs, h1, h => by
  simp only [okCells, List.all_cons, Bool.and_eq_true] at h1
  simp only [VRelL] at h
  obtain ⟨c, l', rfl, hv, hr⟩ := h
  simp only [ORelL]
  exact ⟨c, l', rfl, VRel.cell1 h1.1 hv, hv, VRelL.orel h1.2 hr⟩
theorem VRel.cells {v : V} {c : Value} (h1 : okCells v.cells = true) (h : VRel ok w B v c) : ORelL ok w B v.cells c.cells.toList := by
 by_cases hg : ∃ cs, v = .agg cs
 ·obtain ⟨cs, rfl⟩ := hg
  simp only [VRel] at h
  obtain ⟨cs', rfl, h⟩ := h
  simpa [V.cells, Value.cells] using h
 ·have hc : v.cells = [v] := by cases v <;> first | rfl | exact absurd ⟨_, rfl⟩ hg
  rw [hc] at h1 ⊢
  simp only [okCells, List.all_cons, List.all_nil, Bool.and_true] at h1
  have ho := VRel.cell1 h1 h
  have hcc : c.cells = #[c] := by cases c <;> first | rfl | simp [one] at ho
  rw [hcc]
  simp only [ORelL]
  exact ⟨c, [], rfl, ho, h, rfl⟩
theorem part_rel {t : TypeId} {cs : List V} {cs' : List Value} {off : Nat} {v : V} (hr : ORelL ok w B cs cs') (h : partV P t cs off = some v) :
  ∃ c, (part t cs'.toArray off).run P w = .ok c w ∧ VRel ok w B v c := by
 simp only [partV, Option.bind_eq_some_iff] at h
 obtain ⟨g, hg, h⟩ := h
 have hag := r_isAgg (w := w) hg
 cases g with
 | true =>
  simp only [if_true, Option.bind_eq_some_iff, Option.map_eq_some_iff] at h
  obtain ⟨n, hn, l, hl, rfl⟩ := h
  obtain ⟨rfl, hle, hlen⟩ := loadN_eq hl
  refine ⟨.agg (cs'.toArray.extract off (off + n)), by simp [part, hag, r_size hn], ?_⟩
  simp only [VRel]
  refine ⟨(cs'.drop off).take n, ?_, (hr.drop off).take n⟩
  simp [List.extract_eq_take_drop]
 | false =>
  simp only [Bool.false_eq_true, if_false] at h
  obtain ⟨c, hc, h1, hv⟩ := hr.get h
  exact ⟨c, by simp [part, hag, hc], hv⟩
theorem intV_rel {op : BinOp} {k : IntKind} {x y : Int} {v : V} (h : intV op k x y = some v) (hns : op ≠ .shl ∧ op ≠ .shr) (t : TypeId) :
  ∃ c, (binOp op t (.int k x) (.int k y)).run P w = .ok c w ∧ VRel ok w B v c := by
 cases op <;> simp only [intV, bitsV, Option.map_some, Option.some.injEq, reduceCtorEq] at h
 case quo =>
  split at h
  ·cases h
  ·rename_i hy
   simp only [Option.some.injEq] at h; subst h
   exact ⟨_, by simp [binOp, Op.intDiv, hy]; rfl, by simp [VRel]⟩
 case rem =>
  split at h
  ·cases h
  ·rename_i hy
   simp only [Option.some.injEq] at h; subst h
   exact ⟨_, by simp [binOp, Op.intDiv, hy]; rfl, by simp [VRel]⟩
 all_goals
  subst h
  exact ⟨_, by simp [binOp, Op.intArith, Op.intBits, Op.intCmp]; rfl, by simp [VRel]⟩
theorem shiftV_rel {op : BinOp} {k k' : IntKind} {x y : Int} {v : V} (h : shiftV op k x y = some v) :
  ∃ c, (Op.shift op k x k' y).run P w = .ok c w ∧ VRel ok w B v c := by
 simp only [shiftV] at h
 split at h
 ·cases h
 ·rename_i hy
  cases op <;> simp only [Option.some.injEq, reduceCtorEq] at h <;> subst h <;>
   exact ⟨_, by simp [Op.shift, hy]; rfl, by simp [VRel]⟩
theorem toList_bytes (x : List UInt8) : (ByteArray.mk x.toArray).toList = x := by
 rw [ByteArray.toList_eq]
theorem strV_rel {op : BinOp} {x y : List UInt8} {v : V} (h : strV op x y = some v) :
  ∃ c, (Op.stringOp op ⟨x.toArray⟩ ⟨y.toArray⟩).run P w = .ok c w ∧ VRel ok w B v c := by
 cases op <;> simp only [strV, Option.some.injEq, reduceCtorEq] at h
 case add =>
  split at h
  ·rename_i hle
   simp only [Option.some.injEq] at h; subst h
   refine ⟨.string (⟨x.toArray⟩ ++ ⟨y.toArray⟩), ?_, ?_⟩
   ·have : ¬ (((ByteArray.mk x.toArray).size + (ByteArray.mk y.toArray).size : Nat) : Int) > IntKind.i64.max := by
     have h1 : (ByteArray.mk x.toArray).size = x.length := by simp [ByteArray.size]
     have h2 : (ByteArray.mk y.toArray).size = y.length := by simp [ByteArray.size]
     rw [h1, h2]
     have : IntKind.i64.max = 9223372036854775807 := by decide
     rw [this]; omega
    simp only [Op.stringOp, if_neg this]
    rfl
   ·simp only [VRel]
    congr 1
  ·cases h
 all_goals
  subst h
  exact ⟨_, by simp [Op.stringOp]; rfl, by simp [VRel]⟩
end
end Go.Sim
end
section
namespace Go.Sim
open Go
def EqOk (E : Env) : Prop := ∀ t, E.eqTypes.contains t = true → E.P.stoodInHeld t = false ∧ E.P.eqGuardType E.P.depth t = false
section
variable {E : Env} {P : Program} {w : World} {ok : Nat → Nat → Prop} {B : Bd}
theorem eqItems_rel {e : TypeId} {k : Nat} {ik : IntKind} {xs ys : List V} {a b : List Value} (hu : P.underlying e = some (.int ik)) (ha : ORelL ok w B xs a) (hb : ORelL ok w B ys b) (d : Nat) :
  ∀ (is : List Nat) (r : Bool), eqItemsV P e k xs ys is = some r → (Op.eqItems (d + 1) e k a.toArray b.toArray is).run P w = .ok r w
 | [], r, h => by
  simp only [eqItemsV, Option.some.injEq] at h; subst h
  simp [Op.eqItems]
 | i :: is, r, h => by
  simp only [eqItemsV, Option.bind_eq_some_iff] at h
  obtain ⟨x1, hx1, y1, hy1, h⟩ := h
  obtain ⟨xa, rx, vx⟩ := part_rel (P := P) ha hx1
  obtain ⟨ya, ry, vy⟩ := part_rel (P := P) hb hy1
  split at h
  ·rename_i k1 x k2 y
   simp only [VRel] at vx vy
   subst vx vy
   split at h
   ·rename_i hk
    subst hk
    have hrun := run_equalIn_int w d e k1 ik x y hu
    simp only [Op.eqItems, Sem.run_bind, rx, ry, hrun, Result.andThen_ok]
    split at h
    ·rename_i hxy
     subst hxy
     simp only [beq_self_eq_true, Bool.not_true, Bool.false_eq_true, if_false]
     exact eqItems_rel hu ha hb d is r h
    ·rename_i hxy
     simp only [Option.some.injEq] at h; subst h
     simp [hxy]
   ·cases h
  ·cases h
mutual
theorem eqV_rel (hq : EqOk E) : ∀ (fuel : Nat) (t : TypeId) (x y : V) (r : Bool) (a b : Value), eqV E fuel t x y = some r → VRel ok w B x a → VRel ok w B y b →
  ∀ d, fuel ≤ d → (Op.equalIn d t a b).run E.P w = .ok r w
 | 0, t, x, y, r, a, b, h, _, _, _, _ => by simp [eqV] at h
 | fuel + 1, t, x, y, r, a, b, h, ha, hb, 0, hd => by omega
 | fuel + 1, t, x, y, r, a, b, h, ha, hb, d + 1, hd => by
  unfold eqV at h
  split at h
  ·rename_i x' y' hu; simp only [VRel] at ha hb; subst ha hb
   simp only [Option.some.injEq] at h; subst h
   exact run_equalIn_bool' w d t _ _ hu
  ·rename_i kk k x' k' y' hu; simp only [VRel] at ha hb; subst ha hb
   split at h
   ·rename_i hk; subst hk
    simp only [Option.some.injEq] at h; subst h
    exact run_equalIn_int w d t _ _ _ _ hu
   ·cases h
  ·rename_i x' y' hu; simp only [VRel] at ha hb; subst ha hb
   simp only [Option.some.injEq] at h; subst h
   rw [run_equalIn_string w d t _ _ hu, toList_bytes, toList_bytes]
  ·rename_i e hu; simp only [VRel] at ha hb; subst ha hb
   simp only [Option.some.injEq] at h; subst h
   simp [Op.equalIn, r_under hu]
  ·rename_i e d1 j1 o1 e1 hu
   obtain ⟨x1, rfl⟩ := VRel.pshape hb
   simp only [VRel] at ha; subst ha
   simp only [Option.some.injEq] at h; subst h
   simp [Op.equalIn, r_under hu]
  ·rename_i e cs1 o1 hu; simp only [VRel] at ha hb; subst ha
   obtain ⟨b1, base, rfl, _⟩ := hb
   simp only [Option.some.injEq] at h; subst h
   simp [Op.equalIn, r_under hu]
  ·rename_i e d1 j1 o1 e1 hu
   obtain ⟨x1, rfl⟩ := VRel.pshape ha
   simp only [VRel] at hb; subst hb
   simp only [Option.some.injEq] at h; subst h
   simp [Op.equalIn, r_under hu]
  ·rename_i e cs1 o1 hu; simp only [VRel] at ha hb; subst hb
   obtain ⟨b1, base, rfl, _⟩ := ha
   simp only [Option.some.injEq] at h; subst h
   simp [Op.equalIn, r_under hu]
  ·rename_i e hu; simp only [VRel] at ha hb; subst ha hb
   simp only [Option.some.injEq] at h; subst h
   simp [Op.equalIn, r_under hu]
  ·rename_i e cs1 o1 l1 f1 hu; simp only [VRel] at ha hb; subst ha
   rcases hb with ⟨b1, base, cap, o, rfl, _⟩ | ⟨hl, _⟩
   ·simp only [Option.some.injEq] at h; subst h
    simp [Op.equalIn, r_under hu]
   ·cases hl
  ·rename_i e cs1 o1 l1 f1 hu; simp only [VRel] at ha hb; subst hb
   rcases ha with ⟨b1, base, cap, o, rfl, _⟩ | ⟨hl, _⟩
   ·simp only [Option.some.injEq] at h; subst h
    simp [Op.equalIn, r_under hu]
   ·cases hl
  ·rename_i e d1 j1 o1 l1 e1 f1 hu
   obtain ⟨x1, cap, rfl, hle, hn⟩ := VRel.sshape hb
   simp only [VRel] at ha; subst ha
   simp only [Option.some.injEq] at h; subst h
   cases x1 with
   | none => have := hn rfl; omega
   | some x1 => simp [Op.equalIn, r_under hu]
  ·rename_i e d1 j1 o1 l1 e1 f1 hu
   obtain ⟨x1, cap, rfl, hle, hn⟩ := VRel.sshape ha
   simp only [VRel] at hb; subst hb
   simp only [Option.some.injEq] at h; subst h
   cases x1 with
   | none => have := hn rfl; omega
   | some x1 => simp [Op.equalIn, r_under hu]
  ·rename_i hu
   obtain ⟨x1, cap, rfl, hle, hn⟩ := VRel.sshape hb
   simp only [VRel] at ha; subst ha
   simp only [Option.some.injEq] at h; subst h
   cases x1 with
   | none => have := hn rfl; omega
   | some x1 => simp [Op.equalIn, r_under hu]
  ·rename_i hu
   obtain ⟨x1, cap, rfl, hle, hn⟩ := VRel.sshape ha
   simp only [VRel] at hb; subst hb
   simp only [Option.some.injEq] at h; subst h
   cases x1 with
   | none => have := hn rfl; omega
   | some x1 => simp [Op.equalIn, r_under hu]
  ·rename_i k1 e1 hu; simp only [VRel] at ha hb; subst ha hb
   simp only [Option.some.injEq] at h; subst h
   simp [Op.equalIn, r_under hu]
  ·rename_i k1 e1 d1 j1 hu
   obtain ⟨x1, rfl⟩ := VRel.mshape hb
   simp only [VRel] at ha; subst ha
   simp only [Option.some.injEq] at h; subst h
   simp [Op.equalIn, r_under hu]
  ·rename_i k1 e1 d1 j1 hu
   obtain ⟨x1, rfl⟩ := VRel.mshape ha
   simp only [VRel] at hb; subst hb
   simp only [Option.some.injEq] at h; subst h
   simp [Op.equalIn, r_under hu]
  ·rename_i p1 r1 v1 hu; simp only [VRel] at ha hb; subst ha hb
   simp only [Option.some.injEq] at h; subst h
   simp [Op.equalIn, r_under hu]
  ·rename_i p1 r1 v1 fn1 a1 b1 hu; simp only [VRel] at ha hb; subst ha
   obtain ⟨a', b', rfl, _⟩ := hb
   simp only [Option.some.injEq] at h; subst h
   simp [Op.equalIn, r_under hu]
  ·rename_i p1 r1 v1 fn1 a1 b1 hu; simp only [VRel] at ha hb; subst hb
   obtain ⟨a', b', rfl, _⟩ := ha
   simp only [Option.some.injEq] at h; subst h
   simp [Op.equalIn, r_under hu]
  ·rename_i ms hu; simp only [VRel] at ha hb; subst ha hb
   simp only [Option.some.injEq] at h; subst h
   simp [Op.equalIn, r_under hu]
  ·rename_i ms t1 v1 hu; simp only [VRel] at ha hb; subst ha
   obtain ⟨x1, rfl, _⟩ := hb
   simp only [Option.some.injEq] at h; subst h
   simp [Op.equalIn, r_under hu]
  ·rename_i ms t1 v1 hu; simp only [VRel] at ha hb; subst hb
   obtain ⟨x1, rfl, _⟩ := ha
   simp only [Option.some.injEq] at h; subst h
   simp [Op.equalIn, r_under hu]
  ·rename_i ms tx vx ty vy hu
   simp only [VRel] at ha hb
   obtain ⟨x1, rfl, hx⟩ := ha
   obtain ⟨y1, rfl, hy⟩ := hb
   split at h
   ·rename_i ht; subst ht
    cases hi : E.P.info? tx with
    | none => simp [hi] at h
    | some i =>
     simp only [hi] at h
     split at h
     ·rename_i hc
      have := eqV_rel hq fuel tx vx vy r x1 y1 h hx hy d (by omega)
      simp [Op.equalIn, r_under hu, typeInfo, hi, hc, this]
     ·cases h
   ·rename_i ht
    simp only [Option.some.injEq] at h; subst h
    simp [Op.equalIn, r_under hu, ht]
  ·rename_i fields xs ys hu
   simp only [VRel] at ha hb
   obtain ⟨xs', rfl, hx⟩ := ha
   obtain ⟨ys', rfl, hy⟩ := hb
   split at h
   ·rename_i hc
    have hf : E.P.fieldsOf t = fields := by simp [Program.fieldsOf, hu]
    rw [run_equalIn_struct w d t _ _ (by rw [hf]; exact hu) (hq t hc).1, hf]
    exact eqFields_rel hq fuel fields.toList xs ys r xs' ys' h hx hy d (by omega)
   ·cases h
  ·rename_i n e xs ys hu
   simp only [VRel] at ha hb
   obtain ⟨xs', rfl, hx⟩ := ha
   obtain ⟨ys', rfl, hy⟩ := hb
   split at h
   ·rename_i hc
    simp only [Bool.and_eq_true, decide_eq_true_eq] at hc
    unfold eqArrV at h
    split at h
    ·rename_i ik sz hue hsz
     obtain ⟨i, hi, _⟩ : ∃ i, E.P.info? e = some i ∧ i.size = sz := by simpa [sizeV] using hsz
     obtain ⟨d', rfl⟩ : ∃ d', d = d' + 1 := ⟨d - 1, by omega⟩
     rw [run_equalIn_array w (d' + 1) _ _ hu hi]
     exact eqItems_rel hue hx hy d' _ _ h
    ·cases h
   ·cases h
  ·cases h
theorem eqFields_rel (hq : EqOk E) : ∀ (fuel : Nat) (fs : List Field) (xs ys : List V) (r : Bool) (a b : List Value), eqFields E fuel fs xs ys = some r → ORelL ok w B xs a → ORelL ok w B ys b →
  ∀ d, fuel ≤ d → (Op.eqFields d a.toArray b.toArray fs).run E.P w = .ok r w
 | 0, fs, x, y, r, a, b, h, _, _, _, _ => by simp [eqFields] at h
 | fuel + 1, [], xs, ys, r, a, b, h, ha, hb, d, hd => by
  simp only [eqFields, Option.some.injEq] at h; subst h
  simp [Op.eqFields]
 | fuel + 1, f :: fs, xs, ys, r, a, b, h, ha, hb, d, hd => by
  simp only [eqFields] at h
  split at h
  ·cases h
  ·rename_i hn
   simp only [Option.bind_eq_some_iff] at h
   obtain ⟨x1, hx1, y1, hy1, c, hc, h⟩ := h
   obtain ⟨xa, rx, vx⟩ := part_rel (P := E.P) ha hx1
   obtain ⟨ya, ry, vy⟩ := part_rel (P := E.P) hb hy1
   have hrun := eqV_rel hq fuel f.type x1 y1 c xa ya hc vx vy d (by omega)
   have hne : f.name ≠ "_" := by simpa using hn
   simp only [Op.eqFields, if_pos hne, Sem.run_bind, rx, ry, hrun, Result.andThen_ok]
   cases c with
   | true =>
    simp only [if_true] at h
    simp only [Bool.not_true, Bool.false_eq_true, if_false]
    exact eqFields_rel hq fuel fs xs ys r a b h ha hb d (by omega)
   | false =>
    simp only [Bool.false_eq_true, if_false, Option.some.injEq] at h; subst h
    simp
end
end
end Go.Sim
end
section
namespace Go.Sim
open Go
section
variable {E : Env} {P : Program} {w : World} {ok : Nat → Nat → Prop} {B : Bd}
theorem eqGuard_ok {op : BinOp} {t : TypeId} {x y : Operand} {a b : Value}
  (h1 : a = .nilIface → b = .nilIface → isC x = true ∨ isC y = true)
  (h2 : ∀ c d, a = .agg c → b = .agg d → P.eqGuardType P.depth t = false) : (eqGuard op t x y a b).run P w = .ok () w := by
 cases op
 case eql =>
  simp only [eqGuard, Bool.not_true, Bool.false_eq_true, if_false]
  split
  ·have := h1 rfl rfl
   rw [if_pos (by cases x <;> cases y <;> simp_all [isC])]
   rfl
  ·have := h2 _ _ rfl rfl
   simp [this]
  ·rfl
 case neq =>
  simp only [eqGuard, Bool.not_true, Bool.false_eq_true, if_false]
  split
  ·have := h1 rfl rfl
   rw [if_pos (by cases x <;> cases y <;> simp_all [isC])]
   rfl
  ·have := h2 _ _ rfl rfl
   simp [this]
  ·rfl
 all_goals rfl
theorem VRel.niliface {v : V} (h : VRel ok w B v .nilIface) (h1 : v ≠ .poison) : v = .niliface := by
 cases v with
 | niliface => rfl
 | poison => exact absurd rfl h1
 | pref d j o e => obtain ⟨_, h⟩ := VRel.pshape h; cases h
 | sref d j o l e f => obtain ⟨_, _, h, _⟩ := VRel.sshape h; cases h
 | yield d j => rcases VRel.yshape h with ⟨_, h⟩ | ⟨_, h⟩ <;> cases h
 | pcon cs o => simp only [VRel] at h; obtain ⟨_, _, h, _⟩ := h; cases h
 | scon cs o l f => simp only [VRel] at h; rcases h with ⟨_, _, _, _, h, _⟩ | ⟨_, h⟩ <;> cases h
 | func fn a b => simp only [VRel] at h; obtain ⟨_, _, h, _⟩ := h; cases h
 | iface t x => simp only [VRel] at h; obtain ⟨_, h, _⟩ := h; cases h
 | agg cs => simp only [VRel] at h; obtain ⟨_, h, _⟩ := h; cases h
 | tuple cs => simp only [VRel] at h; obtain ⟨_, h, _⟩ := h; cases h
 | mref d j => obtain ⟨_, h⟩ := VRel.mshape h; cases h
 | _ => simp only [VRel] at h; cases h
theorem VRel.agg_of {v : V} {c : Array Value} (h : VRel ok w B v (.agg c)) (h1 : v ≠ .poison) : ∃ cs, v = .agg cs := by
 cases v with
 | agg cs => exact ⟨cs, rfl⟩
 | poison => exact absurd rfl h1
 | pref d j o e => obtain ⟨_, h⟩ := VRel.pshape h; cases h
 | sref d j o l e f => obtain ⟨_, _, h, _⟩ := VRel.sshape h; cases h
 | yield d j => rcases VRel.yshape h with ⟨_, h⟩ | ⟨_, h⟩ <;> cases h
 | pcon cs o => simp only [VRel] at h; obtain ⟨_, _, h, _⟩ := h; cases h
 | scon cs o l f => simp only [VRel] at h; rcases h with ⟨_, _, _, _, h, _⟩ | ⟨_, h⟩ <;> cases h
 | func fn a b => simp only [VRel] at h; obtain ⟨_, _, h, _⟩ := h; cases h
 | iface t x => simp only [VRel] at h; obtain ⟨_, h, _⟩ := h; cases h
 | tuple cs => simp only [VRel] at h; obtain ⟨_, h, _⟩ := h; cases h
 | mref d j => obtain ⟨_, h⟩ := VRel.mshape h; cases h
 | _ => simp only [VRel] at h; cases h
theorem VRel.int_of {v : V} {k : IntKind} {n : Int} (h : VRel ok w B v (.int k n)) (h1 : v ≠ .poison) : v = .int k n := by
 cases v with
 | int k' n' => simp only [VRel] at h; cases h; rfl
 | poison => exact absurd rfl h1
 | pref d j o e => obtain ⟨_, h⟩ := VRel.pshape h; cases h
 | sref d j o l e f => obtain ⟨_, _, h, _⟩ := VRel.sshape h; cases h
 | yield d j => rcases VRel.yshape h with ⟨_, h⟩ | ⟨_, h⟩ <;> cases h
 | pcon cs o => simp only [VRel] at h; obtain ⟨_, _, h, _⟩ := h; cases h
 | scon cs o l f => simp only [VRel] at h; rcases h with ⟨_, _, _, _, h, _⟩ | ⟨_, h⟩ <;> cases h
 | func fn a b => simp only [VRel] at h; obtain ⟨_, _, h, _⟩ := h; cases h
 | iface t x => simp only [VRel] at h; obtain ⟨_, h, _⟩ := h; cases h
 | agg cs => simp only [VRel] at h; obtain ⟨_, h, _⟩ := h; cases h
 | tuple cs => simp only [VRel] at h; obtain ⟨_, h, _⟩ := h; cases h
 | mref d j => obtain ⟨_, h⟩ := VRel.mshape h; cases h
 | _ => simp only [VRel] at h; cases h
theorem VRel.float_of {v : V} {k : FloatKind} {n : Nat} (h : VRel ok w B v (.float k n)) (h1 : v ≠ .poison) : v = .float k n := by
 cases v with
 | poison => exact absurd rfl h1
 | float k' n' => simp only [VRel] at h; cases h; rfl
 | pref d j o e => obtain ⟨_, h⟩ := VRel.pshape h; cases h
 | sref d j o l e f => obtain ⟨_, _, h, _⟩ := VRel.sshape h; cases h
 | yield d j => rcases VRel.yshape h with ⟨_, h⟩ | ⟨_, h⟩ <;> cases h
 | pcon cs o => simp only [VRel] at h; obtain ⟨_, _, h, _⟩ := h; cases h
 | scon cs o l f => simp only [VRel] at h; rcases h with ⟨_, _, _, _, h, _⟩ | ⟨_, h⟩ <;> cases h
 | func fn a b => simp only [VRel] at h; obtain ⟨_, _, h, _⟩ := h; cases h
 | iface t x => simp only [VRel] at h; obtain ⟨_, h, _⟩ := h; cases h
 | agg cs => simp only [VRel] at h; obtain ⟨_, h, _⟩ := h; cases h
 | tuple cs => simp only [VRel] at h; obtain ⟨_, h, _⟩ := h; cases h
 | mref d j => obtain ⟨_, h⟩ := VRel.mshape h; cases h
 | _ => simp only [VRel] at h; cases h
theorem VRel.str_of {v : V} {s : ByteArray} (h : VRel ok w B v (.string s)) (h1 : v ≠ .poison) : v = .str s.data.toList := by
 cases v with
 | poison => exact absurd rfl h1
 | str s' => simp only [VRel] at h; cases h; rfl
 | pref d j o e => obtain ⟨_, h⟩ := VRel.pshape h; cases h
 | sref d j o l e f => obtain ⟨_, _, h, _⟩ := VRel.sshape h; cases h
 | yield d j => rcases VRel.yshape h with ⟨_, h⟩ | ⟨_, h⟩ <;> cases h
 | pcon cs o => simp only [VRel] at h; obtain ⟨_, _, h, _⟩ := h; cases h
 | scon cs o l f => simp only [VRel] at h; rcases h with ⟨_, _, _, _, h, _⟩ | ⟨_, h⟩ <;> cases h
 | func fn a b => simp only [VRel] at h; obtain ⟨_, _, h, _⟩ := h; cases h
 | iface t x => simp only [VRel] at h; obtain ⟨_, h, _⟩ := h; cases h
 | agg cs => simp only [VRel] at h; obtain ⟨_, h, _⟩ := h; cases h
 | tuple cs => simp only [VRel] at h; obtain ⟨_, h, _⟩ := h; cases h
 | mref d j => obtain ⟨_, h⟩ := VRel.mshape h; cases h
 | _ => simp only [VRel] at h; cases h
theorem VRel.complex_of {v : V} {k : FloatKind} {n m : Nat} (h : VRel ok w B v (.complex k n m)) (h1 : v ≠ .poison) : False := by
 cases v with
 | poison => exact absurd rfl h1
 | pref d j o e => obtain ⟨_, h⟩ := VRel.pshape h; cases h
 | sref d j o l e f => obtain ⟨_, _, h, _⟩ := VRel.sshape h; cases h
 | yield d j => rcases VRel.yshape h with ⟨_, h⟩ | ⟨_, h⟩ <;> cases h
 | pcon cs o => simp only [VRel] at h; obtain ⟨_, _, h, _⟩ := h; cases h
 | scon cs o l f => simp only [VRel] at h; rcases h with ⟨_, _, _, _, h, _⟩ | ⟨_, h⟩ <;> cases h
 | func fn a b => simp only [VRel] at h; obtain ⟨_, _, h, _⟩ := h; cases h
 | iface t x => simp only [VRel] at h; obtain ⟨_, h, _⟩ := h; cases h
 | agg cs => simp only [VRel] at h; obtain ⟨_, h, _⟩ := h; cases h
 | tuple cs => simp only [VRel] at h; obtain ⟨_, h, _⟩ := h; cases h
 | mref d j => obtain ⟨_, h⟩ := VRel.mshape h; cases h
 | _ => simp only [VRel] at h; cases h
theorem eqV_poison {fuel : Nat} {t : TypeId} {x y : V} {r : Bool} (h : eqV E fuel t x y = some r) : x ≠ .poison ∧ y ≠ .poison := by
 cases fuel with
 | zero => simp [eqV] at h
 | succ n =>
  constructor
  ·rintro rfl
   unfold eqV at h
   split at h <;> simp_all
  ·rintro rfl
   unfold eqV at h
   split at h <;> simp_all
theorem eqV_agg {fuel : Nat} {t : TypeId} {x y : List V} {r : Bool} (h : eqV E fuel t (.agg x) (.agg y) = some r) : E.eqTypes.contains t = true := by
 cases fuel with
 | zero => simp [eqV] at h
 | succ n =>
  unfold eqV at h
  split at h <;> simp_all
theorem eql_other {t : TypeId} {a b : Value} {r : Bool} (h1 : ∀ k n k' m, ¬ (a = .int k n ∧ b = .int k' m)) (h2 : ∀ s s', ¬ (a = .string s ∧ b = .string s'))
  (h3 : ∀ k n k' m, ¬ (a = .float k n ∧ b = .float k' m)) (h4 : ∀ k n m k' n' m', ¬ (a = .complex k n m ∧ b = .complex k' n' m'))
  (h : (Op.equalIn 10000 t a b).run P w = .ok r w) :
  (binOp .eql t a b).run P w = .ok (.bool r) w ∧ (binOp .neq t a b).run P w = .ok (.bool !r) w := by
 constructor
 ·have : binOp .eql t a b = (do pure (.bool (← Op.equal t a b))) := by
   unfold binOp
   split <;> first | rfl | contradiction | exact absurd ⟨rfl, rfl⟩ (h1 _ _ _ _) | exact absurd ⟨rfl, rfl⟩ (h3 _ _ _ _) | exact absurd ⟨rfl, rfl⟩ (h4 _ _ _ _ _ _) | exact absurd ⟨rfl, rfl⟩ (h2 _ _) | simp_all
  rw [this]
  simp [Op.equal, Op.maxDepth, h]
 ·have : binOp .neq t a b = (do pure (.bool (!(← Op.equal t a b)))) := by
   unfold binOp
   split <;> first | rfl | contradiction | exact absurd ⟨rfl, rfl⟩ (h1 _ _ _ _) | exact absurd ⟨rfl, rfl⟩ (h3 _ _ _ _) | exact absurd ⟨rfl, rfl⟩ (h4 _ _ _ _ _ _) | exact absurd ⟨rfl, rfl⟩ (h2 _ _) | simp_all
  rw [this]
  simp [Op.equal, Op.maxDepth, h]
theorem eqV_not {fuel : Nat} {t : TypeId} {x y : V} {r : Bool} (h : eqV E fuel t x y = some r) : ∀ k n k' m, ¬ (x = .float k n ∧ y = .float k' m) := by
 rintro k n k' m ⟨rfl, rfl⟩
 cases fuel with
 | zero => simp [eqV] at h
 | succ f => unfold eqV at h; split at h <;> simp_all
theorem equal_rel (hq : EqOk E) {t : TypeId} {x y : V} {a b : Value} {r : Bool} (h : eqV E 200 t x y = some r) (ha : VRel ok w B x a) (hb : VRel ok w B y b)
  (hi : ∀ k n k' m, ¬ (x = .int k n ∧ y = .int k' m)) (hs : ∀ s s', ¬ (x = .str s ∧ y = .str s')) :
  (binOp .eql t a b).run E.P w = .ok (.bool r) w ∧ (binOp .neq t a b).run E.P w = .ok (.bool !r) w := by
 obtain ⟨px, py⟩ := eqV_poison h
 refine eql_other ?_ ?_ ?_ ?_ (eqV_rel hq 200 t x y r a b h ha hb 10000 (by omega))
 ·rintro k n k' m ⟨rfl, rfl⟩
  exact hi _ _ _ _ ⟨VRel.int_of ha px, VRel.int_of hb py⟩
 ·rintro s s' ⟨rfl, rfl⟩
  exact hs _ _ ⟨VRel.str_of ha px, VRel.str_of hb py⟩
 ·rintro k n k' m ⟨rfl, rfl⟩
  exact eqV_not h _ _ _ _ ⟨VRel.float_of ha px, VRel.float_of hb py⟩
 ·rintro k n m k' n' m' ⟨rfl, rfl⟩
  exact VRel.complex_of ha px
theorem binV_rel (hq : EqOk E) {op : BinOp} {t : TypeId} {x y : V} {a b : Value} {v : V} (h : binV E op t x y = some v) (ha : VRel ok w B x a) (hb : VRel ok w B y b) :
  ∃ c, (binOp op t a b).run E.P w = .ok c w ∧ VRel ok w B v c := by
 unfold binV at h
 split at h
 ·rename_i k1 a1 k2 b1
  simp only [VRel] at ha hb; subst ha hb
  exact shiftV_rel (k' := k2) h
 ·rename_i k1 a1 k2 b1
  simp only [VRel] at ha hb; subst ha hb
  exact shiftV_rel (k' := k2) h
 ·simp only [VRel] at ha hb; subst ha hb
  split at h
  ·rename_i hk; subst hk
   exact intV_rel h ⟨fun e => by subst e; simp [intV] at h, fun e => by subst e; simp [intV] at h⟩ t
  ·cases h
 ·simp only [VRel] at ha hb; subst ha hb
  have : ∀ (z z' : ByteArray), binOp op t (.string z) (.string z') = Op.stringOp op z z' := by
   intro z z'; cases op <;> rfl
  rw [this]
  exact strV_rel h
 ·rename_i hi hs
  simp only [Option.map_eq_some_iff] at h
  obtain ⟨r, hr, rfl⟩ := h
  exact ⟨_, (equal_rel hq hr ha hb (fun k n k' m e => hi k n k' m e.1 e.2) (fun s s' e => hs s s' e.1 e.2)).1, by simp [VRel]⟩
 ·rename_i hi hs
  simp only [Option.map_eq_some_iff] at h
  obtain ⟨r, hr, rfl⟩ := h
  exact ⟨_, (equal_rel hq hr ha hb (fun k n k' m e => hi k n k' m e.1 e.2) (fun s s' e => hs s s' e.1 e.2)).2, by simp [VRel]⟩
 ·cases h
theorem binV_cases {op : BinOp} {t : TypeId} {x y : V} {v : V} (h : binV E op t x y = some v) :
  (∃ r, eqV E 200 t x y = some r) ∨ (∃ k a k' b, x = .int k a ∧ y = .int k' b) ∨ (∃ s s', x = .str s ∧ y = .str s') := by
 unfold binV at h
 split at h
 ·exact .inr (.inl ⟨_, _, _, _, rfl, rfl⟩)
 ·exact .inr (.inl ⟨_, _, _, _, rfl, rfl⟩)
 ·exact .inr (.inl ⟨_, _, _, _, rfl, rfl⟩)
 ·exact .inr (.inr ⟨_, _, rfl, rfl⟩)
 ·simp only [Option.map_eq_some_iff] at h
  obtain ⟨r, hr, _⟩ := h
  exact .inl ⟨r, hr⟩
 ·simp only [Option.map_eq_some_iff] at h
  obtain ⟨r, hr, _⟩ := h
  exact .inl ⟨r, hr⟩
 ·cases h
theorem binV_poison {op : BinOp} {t : TypeId} {x y : V} {v : V} (h : binV E op t x y = some v) : x ≠ .poison ∧ y ≠ .poison := by
 rcases binV_cases h with ⟨r, hr⟩ | ⟨k, a, k', b, rfl, rfl⟩ | ⟨s, s', rfl, rfl⟩
 ·exact eqV_poison hr
 ·exact ⟨by simp, by simp⟩
 ·exact ⟨by simp, by simp⟩
theorem binV_agg {op : BinOp} {t : TypeId} {x y : List V} {v : V} (h : binV E op t (.agg x) (.agg y) = some v) : E.eqTypes.contains t = true := by
 rcases binV_cases h with ⟨r, hr⟩ | ⟨k, a, k', b, h1, h2⟩ | ⟨s, s', h1, h2⟩
 ·exact eqV_agg hr
 ·cases h1
 ·cases h1
theorem binO_rel (hq : EqOk E) {op : BinOp} {t : TypeId} {xo yo : Operand} {x y : V} {a b : Value} {v : V} (h : binO E op t xo yo x y = some v) (ha : VRel ok w B x a) (hb : VRel ok w B y b) :
  ∃ c, (do eqGuard op t xo yo a b; binOp op t a b : Sem Value).run E.P w = .ok c w ∧ VRel ok w B v c := by
 have hbin : binV E op t x y = some v ∧ (x = .niliface → y = .niliface → isC xo = true ∨ isC yo = true) := by
  unfold binO at h
  split at h
  ·split at h
   ·rename_i hc; exact ⟨h, fun _ _ => by simpa using hc⟩
   ·cases h
  ·rename_i hn; exact ⟨h, fun hx hy => absurd hy (hn hx)⟩
 obtain ⟨px, py⟩ := binV_poison hbin.1
 obtain ⟨c, hc, hv⟩ := binV_rel hq hbin.1 ha hb
 refine ⟨c, ?_, hv⟩
 have hg : (eqGuard op t xo yo a b).run E.P w = .ok () w := by
  refine eqGuard_ok (fun ea eb => ?_) (fun ca cb ea eb => ?_)
  ·subst ea eb
   exact hbin.2 (VRel.niliface ha px) (VRel.niliface hb py)
  ·subst ea eb
   obtain ⟨cs, rfl⟩ := VRel.agg_of ha px
   obtain ⟨ds, rfl⟩ := VRel.agg_of hb py
   exact (hq t (binV_agg hbin.1)).2
 simp [hg, hc]
theorem unV_rel {op : UnOp} {x v : V} {a : Value} (h : unV op x = some v) (ha : VRel ok w B x a) : ∃ c, (Op.unary op a).run P w = .ok c w ∧ VRel ok w B v c := by
 unfold unV at h
 split at h
 ·simp only [VRel] at ha; subst ha
  simp only [Option.some.injEq] at h; subst h
  exact ⟨_, by simp [Op.unary, Op.intArith]; rfl, by simp [VRel]⟩
 ·simp only [VRel] at ha; subst ha
  simp only [bitsV, Option.map_some, Option.some.injEq] at h; subst h
  exact ⟨_, by simp [Op.unary, Op.intBits]; rfl, by simp [VRel]⟩
 ·simp only [VRel] at ha; subst ha
  simp only [Option.some.injEq] at h; subst h
  exact ⟨_, by simp [Op.unary]; rfl, by simp [VRel]⟩
 ·cases h
end
end Go.Sim
end
section
namespace Go.Sim
open Go
section
variable {E : Env} {P : Program} {w : World} {ok : Nat → Nat → Prop} {B : Bd}
theorem storeN_length : ∀ (vs cells : List V) (off : Nat), (storeN cells off vs).length = cells.length
 | [], _, _ => rfl
 | v :: r, cells, off => by simp [storeN, storeN_length r]
theorem storeN_rel : ∀ {vs : List V} {vs' : List Value} {cells : List V} {arr : Array Value} (off k : Nat), ORelL ok w B vs vs' → ORelL ok w B cells arr.toList →
  ORelL ok w B (storeN cells (off + k) vs) ((vs'.zipIdx k).foldl (fun (cs : Array Value) (x : Value × Nat) => cs.setIfInBounds (off + x.2) x.1) arr).toList
 | [], vs', cells, arr, off, k, h, hc => by simp only [ORelL] at h; subst h; simpa [storeN] using hc
 | v :: r, vs', cells, arr, off, k, h, hc => by
  simp only [ORelL] at h
  obtain ⟨c, r', rfl, h1, hv, hr⟩ := h
  simp only [storeN, List.zipIdx_cons, List.foldl_cons]
  have := storeN_rel (vs := r) (vs' := r') (cells := cells.set (off + k) v) (arr := arr.setIfInBounds (off + k) c) off (k + 1) hr
   (by rw [Array.toList_setIfInBounds]; exact hc.set _ h1 hv)
  exact this
def PartsRel (ok : Nat → Nat → Prop) (w : World) (B : Bd) : List (Nat × V) → List (Nat × Value) → Prop
 | [], l => l = []
 | (i, v) :: r, l => ∃ c l', l = (i, c) :: l' ∧ VRel ok w B v c ∧ PartsRel ok w B r l'
theorem fill_rel {pl : Nat → Option (Nat × Nat)} : ∀ {parts : List (Nat × V)} {parts' : List (Nat × Value)} {cells out : List V} {arr : Array Value}, fillV pl cells parts = some out →
  PartsRel ok w B parts parts' → ORelL ok w B cells arr.toList → ∃ out', Instr.fill pl arr parts' = some out' ∧ ORelL ok w B out out'.toList
 | [], parts', cells, out, arr, h, hp, hc => by
  simp only [fillV, Option.some.injEq] at h; subst h
  simp only [PartsRel] at hp; subst hp
  exact ⟨arr, rfl, hc⟩
 | (i, v) :: r, parts', cells, out, arr, h, hp, hc => by
  simp only [PartsRel] at hp
  obtain ⟨c, r', rfl, hv, hr⟩ := hp
  simp only [fillV] at h
  cases hpl : pl i with
  | none => simp [hpl] at h
  | some x =>
   obtain ⟨off, size⟩ := x
   simp only [hpl] at h
   split at h
   ·rename_i hcond
    obtain ⟨h1, h2, h3⟩ := hcond
    have hcells := VRel.cells h3 hv
    have hlen : c.cells.size = size := by have := hcells.length; simp at this; omega
    have hcl : cells.length = arr.size := by have := hc.length; simpa using this
    have hst := storeN_rel (vs := v.cells) (vs' := c.cells.toList) (cells := cells) (arr := arr) off 0 hcells hc
    obtain ⟨out', ho, hrel⟩ := fill_rel h hr (by simpa using hst)
    refine ⟨out', ?_, hrel⟩
    simp only [Instr.fill, hpl]
    rw [if_neg (by simp [hlen]; omega)]
    rw [← ho]
    congr 1
    simp only [← Array.foldl_toList, Array.toList_zipIdx]
   ·cases h
theorem places_run : ∀ {fs : List Field} {pl : List (Nat × Nat)}, placesV P fs = some pl →
  (fs.mapM (m := Sem) fun f => Functor.map (Prod.mk f.offset) (sizeOf f.type)).run P w = .ok pl w
 | [], pl, h => by simp only [placesV, Option.some.injEq] at h; subst h; simp
 | f :: r, pl, h => by
  simp only [placesV, Option.bind_eq_some_iff, Option.some.injEq] at h
  obtain ⟨n, hn, l, hl, rfl⟩ := h
  simp [r_size hn, places_run hl]
theorem zero_cells {zv : Value} {z : V} (h : ofValue zv = some z) : ORelL ok w B z.cells zv.cells.toList := by
 cases zv with
 | agg cs =>
  simp only [ofValue, Option.map_eq_some_iff] at h
  obtain ⟨l, hl, rfl⟩ := h
  simpa [V.cells, Value.cells] using ofSimpleL_rel hl
 | iface t x =>
  simp only [ofValue, Option.map_eq_some_iff] at h
  obtain ⟨l, hl, rfl⟩ := h
  simp only [V.cells, Value.cells, ORelL]
  exact ⟨_, [], rfl, rfl, by simp only [VRel]; exact ⟨x, rfl, ofSimple_rel hl⟩, rfl⟩
 | func fn a b =>
  have hv : VRel ok w B z (.func fn a b) := ofValue_rel h
  cases fn with
  | func f =>
   simp only [ofValue] at h
   split at h
   ·simp only [Option.some.injEq] at h; subst h
    simp only [V.cells, Value.cells, ORelL]
    exact ⟨_, [], rfl, rfl, hv, rfl⟩
   ·cases h
  | _ => simp [ofValue, ofSimple] at h
 | tuple vs => simp [ofValue, ofSimple] at h
 | _ =>
  have h' := h
  simp only [ofValue] at h'
  have hv : VRel ok w B z _ := ofValue_rel h
  have h1 := ofSimple_one h'
  have : z.cells = [z] := by cases z <;> first | rfl | simp [V.cell1] at h1
  rw [this]
  simp only [Value.cells, ORelL]
  exact ⟨_, [], rfl, rfl, hv, rfl⟩
theorem build_rel {t : TypeId} {parts : List (Nat × V)} {parts' : Array (Nat × Value)} {v : V} (h : buildV P t parts = some v) (hp : PartsRel ok w B parts parts'.toList) :
  ∃ c, (Instr.build t parts').run P w = .ok c w ∧ VRel ok w B v c := by
 simp only [buildV, Option.bind_eq_some_iff] at h
 obtain ⟨z, hz, h⟩ := h
 obtain ⟨zv, hzr, hzv⟩ := r_zero (w := w) hz
 have hzc := zero_cells (ok := ok) (w := w) (B := B) hzv
 split at h
 ·rename_i fields hu
  simp only [Option.bind_eq_some_iff, Option.map_eq_some_iff] at h
  obtain ⟨pl, hpl, out, hout, rfl⟩ := h
  obtain ⟨out', ho, hrel⟩ := fill_rel (arr := zv.cells) hout hp hzc
  refine ⟨.agg out', ?_, by simp only [VRel]; exact ⟨out'.toList, by simp, hrel⟩⟩
  have hpr : (fields.mapM (m := Sem) fun f => do pure (f.offset, ← sizeOf f.type)).run P w = .ok pl.toArray w := by
   rw [Array.mapM_eq_mapM_toList]
   simp [places_run hpl]
  have ho' : Instr.fill (fun i => pl.toArray[i]?) zv.cells parts'.toList = some out' := by simpa using ho
  simp only [Instr.build, Sem.run_bind, hzr, Result.andThen_ok, r_under hu, hpr, ho']
  rfl
 ·rename_i len elem hu
  simp only [Option.bind_eq_some_iff, Option.map_eq_some_iff] at h
  obtain ⟨n, hn, out, hout, rfl⟩ := h
  obtain ⟨out', ho, hrel⟩ := fill_rel (arr := zv.cells) hout hp hzc
  refine ⟨.agg out', ?_, by simp only [VRel]; exact ⟨out'.toList, by simp, hrel⟩⟩
  simp only [Instr.build, Sem.run_bind, hzr, Result.andThen_ok, r_under hu, r_size hn, ho]
  rfl
 ·cases h
end
end Go.Sim
end
section
namespace Go.Sim
open Go
section
variable {E : Env} {P : Program} {w : World} {ok : Nat → Nat → Prop} {B : Bd}
def ORel (ok : Nat → Nat → Prop) (w : World) (B : Bd) : Option V → Option Value → Prop
 | none, c => c = none
 | some v, c => ∃ x, c = some x ∧ VRel ok w B v x
theorem bound_run {v : V} {c : Value} {y n : Nat} (h : boundV v y = some n) (hv : VRel ok w B v c) (code : BoundsCode) : (Instr.sliceBound c y code).run P w = .ok n w ∧ n ≤ y := by
 cases v <;> simp only [boundV, reduceCtorEq] at h
 rename_i k i
 simp only [VRel] at hv; subst hv
 split at h
 ·rename_i hc
  simp only [Option.some.injEq] at h; subst h
  exact ⟨by simp [Instr.sliceBound, asIntOf, hc], by omega⟩
 ·cases h
theorem bounds_run {isSlice : Bool} {len cap : Nat} {lo hi mx : Option V} {lo' hi' mx' : Option Value} {l h : Nat} {m : Option Nat} (hb : boundsV len lo hi mx = some (l, h, m))
  (hlo : ORel ok w B lo lo') (hhi : ORel ok w B hi hi') (hmx : ORel ok w B mx mx') (hcap : len ≤ cap) :
  (Instr.sliceBounds isSlice len cap lo' hi' mx').run P w = .ok (l, h, m.getD cap) w ∧ l ≤ h ∧ h ≤ len ∧ h ≤ m.getD cap ∧ m.getD cap ≤ cap ∧ (∀ m', m = some m' → m' ≤ len) := by
 simp only [boundsV, Option.bind_eq_some_iff, Option.some.injEq, Prod.mk.injEq] at hb
 obtain ⟨m1, hm, h1, hh, l1, hl, rfl, rfl, rfl⟩ := hb
 have up : ∀ {v : V} {y y' n : Nat}, boundV v y = some n → y ≤ y' → boundV v y' = some n := by
  intro v y y' n hv hy
  cases v <;> simp only [boundV, reduceCtorEq] at hv ⊢
  split at hv
  ·rename_i hc; rw [if_pos ⟨hc.1, by omega⟩]; exact hv
  ·cases hv
 have lowr : ∀ (code : Bool), ∃ (r : Sem Nat), (match lo' with
   | some v => Instr.sliceBound v h1 (if code then .slice3C else .sliceB)
   | none => pure 0) = r ∧ r.run P w = .ok l1 w ∧ l1 ≤ h1 := by
  intro code
  cases lo with
  | none =>
   simp only [ORel] at hlo; subst hlo
   simp only [Option.some.injEq] at hl; subst hl
   exact ⟨_, rfl, by simp, Nat.zero_le _⟩
  | some v =>
   simp only [ORel] at hlo
   obtain ⟨x, rfl, hx⟩ := hlo
   exact ⟨_, rfl, (bound_run hl hx _).1, (bound_run (P := P) hl hx .index).2⟩
 cases mx with
 | none =>
  simp only [Option.some.injEq] at hm; subst hm
  simp only [ORel] at hmx; subst hmx
  obtain ⟨rl, hrl, hrunl, hle⟩ := lowr false
  cases hi with
  | none =>
   simp only [Option.some.injEq] at hh; subst hh
   simp only [ORel] at hhi; subst hhi
   refine ⟨?_, hle, Nat.le_refl _, by simpa using hcap, by simp, by simp⟩
   simp only [Instr.sliceBounds, Sem.run_bind, Sem.run_pure, Result.andThen_ok, Option.isSome_none]
   cases lo' with
   | none => simp only at hrl; subst hrl; simp at hrunl; simp [hrunl]
   | some x => simp only at hrl; subst hrl; simp at hrunl; simp [hrunl]
  | some v =>
   simp only [ORel] at hhi
   obtain ⟨x, rfl, hx⟩ := hhi
   simp only [Option.getD_none] at hh
   have hle2 := (bound_run (P := P) hh hx .index).2
   have hrun := (bound_run (P := P) (up hh hcap) hx (if isSlice then .sliceAcap else .sliceAlen)).1
   refine ⟨?_, hle, hle2, by simp; omega, by simp, by simp⟩
   simp only [Instr.sliceBounds, Sem.run_bind, Sem.run_pure, Result.andThen_ok, Option.isSome_none, hrun]
   cases lo' with
   | none => simp only at hrl; subst hrl; simp at hrunl; simp [hrunl]
   | some x => simp only at hrl; subst hrl; simp at hrunl; simp [hrunl]
 | some mv =>
  simp only [Option.map_eq_some_iff] at hm
  obtain ⟨n, hn, rfl⟩ := hm
  simp only [ORel] at hmx
  obtain ⟨mxv, rfl, hmx⟩ := hmx
  have hle3 := (bound_run (P := P) hn hmx .index).2
  have hrun3 := (bound_run (P := P) (up hn hcap) hmx (if isSlice then .slice3Acap else .slice3Alen)).1
  obtain ⟨rl, hrl, hrunl, hle⟩ := lowr true
  cases hi with
  | none => simp at hh
  | some v =>
   simp only [ORel] at hhi
   obtain ⟨x, rfl, hx⟩ := hhi
   simp only [Option.getD_some] at hh
   have hle2 := (bound_run (P := P) hh hx .index).2
   have hrun := (bound_run (P := P) hh hx .slice3B).1
   refine ⟨?_, hle, by omega, by simp; omega, by simp; omega, by intro m' hm'; simp at hm'; omega⟩
   simp only [Instr.sliceBounds, Sem.run_bind, Result.andThen_ok, Option.isSome_some, hrun, hrun3, Option.getD_some]
   cases lo' with
   | none => simp only at hrl; subst hrl; simp at hrunl; simp [hrunl]
   | some x => simp only at hrl; subst hrl; simp at hrunl; simp [hrunl]
theorem Addr.add_plain (b o n : Nat) : (Addr.mk b o none).add n = ⟨b, o + n, none⟩ := by
 unfold Addr.add
 split
 ·rename_i h; subst h; rfl
 ·rfl
theorem slice_rel {t : TypeId} {x : V} {a : Value} {lo hi mx : Option V} {lo' hi' mx' : Option Value} {v : V} (h : sliceV P t x lo hi mx = some v) (hx : VRel ok w B x a)
  (hlo : ORel ok w B lo lo') (hhi : ORel ok w B hi hi') (hmx : ORel ok w B mx mx') : ∃ c, (Instr.sliceAt t a lo' hi' mx').run P w = .ok c w ∧ VRel ok w B v c := by
 unfold sliceV at h
 split at h
 ·rename_i s hu
  simp only [VRel] at hx; subst hx
  cases mx with
  | some m => simp at h
  | none =>
   simp only [ORel] at hmx; subst hmx
   simp only [Option.bind_eq_some_iff, Option.some.injEq] at h
   obtain ⟨⟨l, hh, m⟩, hb, rfl⟩ := h
   have hsz : (ByteArray.mk s.toArray).size = s.length := by simp [ByteArray.size]
   have hr := (bounds_run (P := P) (isSlice := false) (cap := s.length) hb hlo hhi (mx := none) (mx' := none) rfl (Nat.le_refl _)).1
   refine ⟨.string ((ByteArray.mk s.toArray).extract l hh), ?_, ?_⟩
   ·simp [Instr.sliceAt, Instr.slice, r_under hu, hsz, hr]
   ·simp only [VRel]
    congr 1
    apply ByteArray.ext
    simp [List.extract_eq_take_drop, List.drop_take]
 ·rename_i elem hu
  simp only [VRel] at hx; subst hx
  simp only [Option.bind_eq_some_iff, Option.some.injEq] at h
  obtain ⟨⟨l, hh, m⟩, hb, n, hn, rfl⟩ := h
  obtain ⟨hr, h1, h2, h3, h4, h5⟩ := bounds_run (P := P) (isSlice := true) (cap := 0) hb hlo hhi hmx (Nat.le_refl _)
  refine ⟨.slice none (hh - l) (m.getD 0 - l), ?_, ?_⟩
  ·simp [Instr.sliceAt, Instr.slice, r_under hu, hr, r_size hn]
  ·simp only [VRel]; congr 1 <;> omega
 ·rename_i elem d j off len ep q hu
  simp only [Option.bind_eq_some_iff] at h
  obtain ⟨⟨l, hh, m⟩, hb, n, hn, h⟩ := h
  split at h
  ·rename_i hq
   simp only [Option.some.injEq] at h; subst h
   obtain ⟨a0, cap, rfl, hle, hnone⟩ := VRel.sshape hx
   obtain ⟨hr, h1, h2, h3, h4, h5⟩ := bounds_run (P := P) (isSlice := true) (cap := cap) hb hlo hhi hmx hle
   refine ⟨.slice (if m.getD cap = l then a0 else a0.map (·.add (l * n))) (hh - l) (m.getD cap - l), ?_, ?_⟩
   ·simp [Instr.sliceAt, Instr.slice, r_under hu, hr, r_size hn]
   ·have hsh : SShape (hh - l) ep (.slice (if m.getD cap = l then a0 else a0.map (·.add (l * n))) (hh - l) (m.getD cap - l)) := by
     refine ⟨_, _, rfl, by omega, fun hz => ?_⟩
     by_cases hml : m.getD cap = l
     ·rw [if_pos hml] at hz
      exact ⟨by omega, (hnone hz).2⟩
     ·rw [if_neg hml] at hz
      have := hnone (by simpa using hz)
      omega
    simp only [VRel] at hx ⊢
    split at hx
    ·exact hsh
    ·rename_i b ep' esz _
     rcases hx with ⟨hlt, _⟩ | ⟨heq, hx⟩
     ·exact .inl ⟨hlt, hsh⟩
     ·refine .inr ⟨heq, ?_⟩
      rcases hx with ⟨b0, cap', o, rfl, hv, g1, g2, g3, g4⟩ | ⟨rfl, rfl, rfl, he0, hv⟩
      ·simp only [Value.slice.injEq] at hv
       obtain ⟨rfl, _, rfl⟩ := hv
       refine .inl ⟨b0, m.getD cap - l, if m.getD cap = l then o else o + l * n, rfl, ?_, by omega, ?_, ?_, ?_⟩
       ·by_cases hml : m.getD cap = l
        ·simp [hml]
        ·simp [hml, Addr.add_plain]
       ·intro hf
        cases m with
        | some m' => simp at hf ⊢; omega
        | none => simp at hf ⊢; have := g2 hf.1; omega
       ·intro hpos
        rw [if_neg (by omega), g3 (by omega)]
       ·intro hpos
        have hqn : q.1 = n := by rcases hq with h | h; exact h; simp only at hpos; omega
        have := g4 hpos
        simp only [hqn] at this ⊢
        have h6 : l * n + (m.getD cap - l) * n ≤ cap * n := by
         rw [← Nat.add_mul]; exact Nat.mul_le_mul_right n (by omega)
        omega
      ·simp only [Value.slice.injEq] at hv
       obtain ⟨rfl, _, rfl⟩ := hv
       refine .inr ⟨rfl, ?_, by omega, he0, ?_⟩
       ·have : l = 0 := by omega
        simp [this]
       ·simp; omega
    ·exact hx.elim
  ·cases h
 ·rename_i elem cells off len full hu
  simp only [Option.bind_eq_some_iff, Option.some.injEq] at h
  obtain ⟨⟨l, hh, m⟩, hb, n, hn, rfl⟩ := h
  simp only [VRel] at hx
  rcases hx with ⟨b, base, cap, o, rfl, g1, g2, g3, g5⟩ | ⟨rfl, rfl⟩
  ·obtain ⟨hr, h1, h2, h3, h4, h5⟩ := bounds_run (P := P) (isSlice := true) (cap := cap) hb hlo hhi hmx g1
   refine ⟨.slice (if m.getD cap = l then some o else (some o : Option Addr).map (·.add (l * n))) (hh - l) (m.getD cap - l), ?_, ?_⟩
   ·simp [Instr.sliceAt, Instr.slice, r_under hu, hr, r_size hn]
   ·simp only [VRel]
    refine .inl ⟨b, base + (off + l * n), m.getD cap - l, if m.getD cap = l then o else o.add (l * n), ?_, by omega, ?_, ?_, CRel.cut _ _ _ g5⟩
    ·by_cases hml : m.getD cap = l
     ·simp [hml]
     ·simp [hml]
    ·intro hf
     cases m with
     | some m' => simp at hf ⊢; omega
     | none => simp at hf ⊢; have := g2 hf.1; omega
    ·intro hpos
     rw [if_neg (by omega), g3 (by omega), Addr.add_plain]
     simp only [Addr.mk.injEq, true_and, and_true]; omega
  ·obtain ⟨hr, h1, h2, h3, h4, h5⟩ := bounds_run (P := P) (isSlice := true) (cap := 0) hb hlo hhi hmx (Nat.le_refl _)
   refine ⟨.slice none (hh - l) (m.getD 0 - l), ?_, ?_⟩
   ·simp [Instr.sliceAt, Instr.slice, r_under hu, hr, r_size hn]
   ·simp only [VRel]
    exact .inr ⟨by omega, by congr 1 <;> omega⟩
 ·rename_i len elem d j off ep hu
  simp only [Option.bind_eq_some_iff, Option.some.injEq] at h
  obtain ⟨⟨l, hh, m⟩, hb, n, hn, rfl⟩ := h
  obtain ⟨a0, rfl⟩ := VRel.pshape hx
  obtain ⟨hr, h1, h2, h3, h4, h5⟩ := bounds_run (P := P) (isSlice := false) (cap := len) hb hlo hhi hmx (Nat.le_refl _)
  refine ⟨.slice (some (if m.getD len = l then a0 else a0.add (l * n))) (hh - l) (m.getD len - l), ?_, ?_⟩
  ·simp [Instr.sliceAt, Instr.sureAddr, r_under hu, hr, r_size hn]
  ·have hsh : SShape (hh - l) ep (.slice (some (if m.getD len = l then a0 else a0.add (l * n))) (hh - l) (m.getD len - l)) := ⟨_, _, rfl, by omega, fun hz => by cases hz⟩
   simp only [VRel] at hx ⊢
   split at hx
   ·exact hsh
   ·rcases hx with ⟨hlt, _⟩ | ⟨heq, b0, rfl, hv⟩
    ·exact .inl ⟨hlt, hsh⟩
    ·refine .inr ⟨heq, .inl ⟨b0, m.getD len - l, if m.getD len = l then off else off + l * n, rfl, ?_, by omega, ?_, ?_, ?_⟩⟩
     ·simp only [Value.pointer.injEq, Option.some.injEq] at hv
      subst hv
      by_cases hml : m.getD len = l
      ·simp [hml]
      ·simp [hml, Addr.add_plain]
     ·intro hf; simp at hf; omega
     ·intro hpos; rw [if_neg (by omega)]
     ·intro hpos; simp at hpos
   ·exact hx.elim
 ·rename_i len elem cells off hu
  simp only [Option.bind_eq_some_iff, Option.some.injEq] at h
  obtain ⟨⟨l, hh, m⟩, hb, n, hn, rfl⟩ := h
  simp only [VRel] at hx
  obtain ⟨b, base, rfl, g5⟩ := hx
  obtain ⟨hr, h1, h2, h3, h4, h5⟩ := bounds_run (P := P) (isSlice := false) (cap := len) hb hlo hhi hmx (Nat.le_refl _)
  refine ⟨.slice (some (if m.getD len = l then ⟨b, base + off, none⟩ else (Addr.mk b (base + off) none).add (l * n))) (hh - l) (m.getD len - l), ?_, ?_⟩
  ·simp [Instr.sliceAt, Instr.sureAddr, r_under hu, hr, r_size hn]
  ·simp only [VRel]
   refine .inl ⟨b, base + (off + l * n), m.getD len - l, if m.getD len = l then ⟨b, base + off, none⟩ else ⟨b, base + off + l * n, none⟩, ?_, by omega, ?_, ?_, CRel.cut _ _ _ g5⟩
   ·by_cases hml : m.getD len = l
    ·simp [hml]
    ·simp [hml, Addr.add_plain]
   ·intro hf; simp at hf; omega
   ·intro hpos; rw [if_neg (by omega)]; simp only [Addr.mk.injEq, true_and, and_true]; omega
 ·cases h
end
end Go.Sim
end
section
namespace Go.Sim
open Go
section
variable {E : Env} {P : Program} {w : World} {ok : Nat → Nat → Prop} {B : Bd}
theorem pref_add {d j o e n : Nat} {a : Value} (h : VRel ok w B (.pref d j o e) a) : ∃ x, a = .pointer (some x) ∧ VRel ok w B (.pref d j (o + n) e) (.pointer (some (x.add n))) := by
 obtain ⟨x, rfl⟩ := VRel.pshape h
 refine ⟨x, rfl, ?_⟩
 simp only [VRel] at h ⊢
 split at h
 ·exact ⟨_, rfl⟩
 ·rcases h with ⟨hlt, _⟩ | ⟨heq, b0, rfl, hv⟩
  ·exact .inl ⟨hlt, _, rfl⟩
  ·refine .inr ⟨heq, b0, rfl, ?_⟩
   simp only [Value.pointer.injEq, Option.some.injEq] at hv
   subst hv
   rw [Addr.add_plain]
 ·exact h.elim
theorem pcon_add {cells : List V} {o n : Nat} {a : Value} (h : VRel ok w B (.pcon cells o) a) : ∃ x, a = .pointer (some x) ∧ VRel ok w B (.pcon cells (o + n)) (.pointer (some (x.add n))) := by
 simp only [VRel] at h
 obtain ⟨b, base, rfl, g5⟩ := h
 refine ⟨_, rfl, ?_⟩
 simp only [VRel]
 exact ⟨b, base, by rw [Addr.add_plain, Nat.add_assoc], g5⟩
theorem indexAddr_rel {t : TypeId} {x i v : V} {a ia : Value} (h : indexAddrV P t x i = some v) (hx : VRel ok w B x a) (hi : VRel ok w B i ia) :
  ∃ c, (Instr.indexAt t a ia).run P w = .ok c w ∧ VRel ok w B v c := by
 unfold indexAddrV at h
 split at h
 ·rename_i k n
  simp only [VRel] at hi; subst hi
  split at h
  ·rename_i elem d j off len ep q hu
   split at h
   ·rename_i hc
    simp only [Option.bind_eq_some_iff, Option.some.injEq] at h
    obtain ⟨m, hm, rfl⟩ := h
    obtain ⟨a0, cap, rfl, hle, hnone⟩ := VRel.sshape hx
    cases a0 with
    | none => have := hnone rfl; omega
    | some a0 =>
     refine ⟨.pointer (some (a0.add (n.toNat * m))), by simp [Instr.indexAt, asIntOf, r_under hu, hc, r_size hm], ?_⟩
     simp only [VRel] at hx ⊢
     split at hx
     ·exact ⟨_, rfl⟩
     ·rcases hx with ⟨hlt, _⟩ | ⟨heq, hx⟩
      ·exact .inl ⟨hlt, _, rfl⟩
      ·refine .inr ⟨heq, ?_⟩
       rcases hx with ⟨b0, cap', o, rfl, hv, g1, g2, g3, g4⟩ | ⟨_, _, rfl, _, hv⟩
       ·simp only [Value.slice.injEq, Option.some.injEq] at hv
        obtain ⟨rfl, _, rfl⟩ := hv
        exact ⟨b0, rfl, by rw [Addr.add_plain, g3 (by omega)]⟩
       ·cases hv
     ·exact hx.elim
   ·cases h
  ·rename_i elem cells off len full hu
   split at h
   ·rename_i hc
    simp only [Option.bind_eq_some_iff, Option.some.injEq] at h
    obtain ⟨m, hm, rfl⟩ := h
    simp only [VRel] at hx
    rcases hx with ⟨b, base, cap, o, rfl, g1, g2, g3, g5⟩ | ⟨rfl, rfl⟩
    ·refine ⟨.pointer (some (o.add (n.toNat * m))), by simp [Instr.indexAt, asIntOf, r_under hu, hc, r_size hm], ?_⟩
     simp only [VRel]
     exact ⟨b, base, by rw [g3 (by omega), Addr.add_plain, Nat.add_assoc], g5⟩
    ·omega
   ·cases h
  ·rename_i len elem d j off ep hu
   split at h
   ·rename_i hc
    simp only [Option.bind_eq_some_iff, Option.some.injEq] at h
    obtain ⟨m, hm, rfl⟩ := h
    obtain ⟨x, rfl, hv⟩ := pref_add (n := n.toNat * m) hx
    exact ⟨_, by simp [Instr.indexAt, asIntOf, Instr.sureAddr, r_under hu, hc, r_size hm], hv⟩
   ·cases h
  ·rename_i len elem cells off hu
   split at h
   ·rename_i hc
    simp only [Option.bind_eq_some_iff, Option.some.injEq] at h
    obtain ⟨m, hm, rfl⟩ := h
    obtain ⟨x, rfl, hv⟩ := pcon_add (n := n.toNat * m) hx
    exact ⟨_, by simp [Instr.indexAt, asIntOf, Instr.sureAddr, r_under hu, hc, r_size hm], hv⟩
   ·cases h
  ·cases h
 ·cases h
theorem index_rel {t : TypeId} {x i v : V} {a ia : Value} (h : indexV P t x i = some v) (hx : VRel ok w B x a) (hi : VRel ok w B i ia) :
  ∃ c, (Instr.index t a ia).run P w = .ok c w ∧ VRel ok w B v c := by
 unfold indexV at h
 split at h
 ·rename_i k n
  simp only [VRel] at hi; subst hi
  split at h
  ·rename_i len elem cs hu
   split at h
   ·rename_i hc
    simp only [Option.bind_eq_some_iff] at h
    obtain ⟨m, hm, h⟩ := h
    simp only [VRel] at hx
    obtain ⟨cs', rfl, hx⟩ := hx
    obtain ⟨c, hr, hv⟩ := part_rel (P := P) hx h
    exact ⟨c, by simp [Instr.index, asIntOf, r_under hu, hc, r_size hm, hr], hv⟩
   ·cases h
  ·rename_i s hu
   split at h
   ·rename_i hc
    simp only [Option.map_eq_some_iff] at h
    obtain ⟨b, hb, rfl⟩ := h
    simp only [VRel] at hx; subst hx
    refine ⟨.int .u8 b.toNat, ?_, by simp [u8, VRel]⟩
    have : (ByteArray.mk s.toArray)[n.toNat]? = some b := by
     have hlt : n.toNat < s.length := by
      rcases Nat.lt_or_ge n.toNat s.length with h | h
      ·exact h
      ·simp [List.getElem?_eq_none h] at hb
     rw [getElem?_pos (ByteArray.mk s.toArray) n.toNat (by simpa [ByteArray.size] using hlt)]
     rw [List.getElem?_eq_getElem hlt] at hb
     simp only [Option.some.injEq] at hb
     rw [← hb]
     rfl
    simp [Instr.index, asIntOf, r_under hu, hc, this]
   ·cases h
  ·cases h
 ·cases h
theorem fieldAddr_rel {t : TypeId} {x v : V} {f : Nat} {a : Value} (h : fieldAddrV P t x f = some v) (hx : VRel ok w B x a) : ∃ c, (Instr.fieldAt t a f).run P w = .ok c w ∧ VRel ok w B v c := by
 unfold fieldAddrV at h
 split at h
 ·rename_i fields hu
  simp only [Option.bind_eq_some_iff] at h
  obtain ⟨fd, hfd, n, hn, h⟩ := h
  split at h
  ·cases h
  ·rename_i hn0
   split at h
   ·rename_i d j off ep
    simp only [Option.some.injEq] at h; subst h
    obtain ⟨x, rfl, hv⟩ := pref_add (n := fd.offset) hx
    exact ⟨_, by simp [Instr.fieldAt, r_under hu, hfd, Instr.sureAddr, fieldPlace, r_size hn, hn0], hv⟩
   ·rename_i cells off
    simp only [Option.some.injEq] at h; subst h
    obtain ⟨x, rfl, hv⟩ := pcon_add (n := fd.offset) hx
    exact ⟨_, by simp [Instr.fieldAt, r_under hu, hfd, Instr.sureAddr, fieldPlace, r_size hn, hn0], hv⟩
   ·cases h
 ·cases h
theorem field_rel {t : TypeId} {x v : V} {f : Nat} {a : Value} (h : fieldV P t x f = some v) (hx : VRel ok w B x a) : ∃ c, (Instr.field t a f).run P w = .ok c w ∧ VRel ok w B v c := by
 unfold fieldV at h
 split at h
 ·rename_i fields cs hu
  simp only [Option.bind_eq_some_iff] at h
  obtain ⟨fd, hfd, h⟩ := h
  simp only [VRel] at hx
  obtain ⟨cs', rfl, hx⟩ := hx
  obtain ⟨c, hr, hv⟩ := part_rel (P := P) hx h
  exact ⟨c, by simp [Instr.field, r_under hu, hfd, asAgg, hr], hv⟩
 ·cases h
theorem assert_rel {x v : V} {xt asserted : TypeId} {ck : Bool} {a : Value} (h : assertV P x asserted ck = some v) (hx : VRel ok w B x a) :
  ∃ c, (Instr.typeAssert a xt asserted ck).run P w = .ok c w ∧ VRel ok w B v c := by
 unfold assertV at h
 split at h
 ·cases h
 ·rename_i d t x1 hni hu
  simp only [VRel] at hx
  obtain ⟨x', rfl, hx⟩ := hx
  have hd : ∀ ms, d ≠ .interface ms := fun ms e => by subst e; exact hni ms rfl
  split at h
  ·rename_i ht
   simp only [Option.some.injEq] at h; subst h
   cases ck with
   | true =>
    refine ⟨.tuple #[x', .bool true], ?_, ?_⟩
    ·cases d <;> first | exact absurd rfl (hd _) | simp [Instr.typeAssert, r_under hu, ht]
    ·simp only [if_true, VRel, VRelL]
     exact ⟨[x', .bool true], rfl, x', _, rfl, hx, _, _, rfl, rfl, rfl⟩
   | false =>
    refine ⟨x', ?_, ?_⟩
    ·cases d <;> first | exact absurd rfl (hd _) | simp [Instr.typeAssert, r_under hu, ht]
    ·simpa using hx
  ·rename_i ht
   split at h
   ·rename_i hck
    simp only [Option.map_eq_some_iff] at h
    obtain ⟨z, hz, rfl⟩ := h
    obtain ⟨zv, hzr, hzv⟩ := r_zero (w := w) hz
    refine ⟨.tuple #[zv, .bool false], ?_, ?_⟩
    ·cases d <;> first | exact absurd rfl (hd _) | simp [Instr.typeAssert, r_under hu, ht, hck, hzr]
    ·simp only [VRel, VRelL]
     exact ⟨[zv, .bool false], rfl, zv, _, rfl, ofValue_rel hzv, _, _, rfl, rfl, rfl⟩
   ·cases h
 ·rename_i d hni hu
  simp only [VRel] at hx; subst hx
  have hd : ∀ ms, d ≠ .interface ms := fun ms e => by subst e; exact hni ms rfl
  split at h
  ·rename_i hck
   simp only [Option.map_eq_some_iff] at h
   obtain ⟨z, hz, rfl⟩ := h
   obtain ⟨zv, hzr, hzv⟩ := r_zero (w := w) hz
   refine ⟨.tuple #[zv, .bool false], ?_, ?_⟩
   ·cases d <;> first | exact absurd rfl (hd _) | simp [Instr.typeAssert, r_under hu, hck, hzr]
   ·simp only [VRel, VRelL]
    exact ⟨[zv, .bool false], rfl, zv, _, rfl, ofValue_rel hzv, _, _, rfl, rfl, rfl⟩
  ·cases h
 ·cases h
theorem makeInterface_rel {t : TypeId} {x : V} {a : Value} {d : TypeDesc} (hu : P.underlying t = some d) (hd : ∀ ms, d ≠ .interface ms) (hx : VRel ok w B x a) :
  (Instr.makeInterface t a).run P w = .ok (.iface t a) w ∧ VRel ok w B (.iface t x) (.iface t a) := by
 refine ⟨?_, by simp only [VRel]; exact ⟨a, rfl, hx⟩⟩
 cases d <;> first | exact absurd rfl (hd _) | simp [Instr.makeInterface, r_under hu]
theorem slice_len {x : V} {a : Value} {n : Nat} (h : lenV x = some n) (hx : VRel ok w B x a) (hs : ∀ s, x ≠ .str s) : ∃ b cap, a = .slice b n cap ∧ n ≤ cap ∧ (b = none → cap = 0) := by
 cases x <;> simp only [lenV, Option.some.injEq, reduceCtorEq] at h
 ·exact absurd rfl (hs _)
 ·simp only [VRel] at hx; subst hx h; exact ⟨none, 0, rfl, Nat.le_refl _, fun _ => rfl⟩
 ·subst h
  obtain ⟨b, cap, h1, h2, h3⟩ := VRel.sshape hx
  exact ⟨b, cap, h1, h2, fun h => (h3 h).1⟩
 ·subst h
  simp only [VRel] at hx
  rcases hx with ⟨b, base, cap, o, rfl, g1, _⟩ | ⟨rfl, rfl⟩
  ·exact ⟨_, cap, rfl, g1, fun h => by cases h⟩
  ·exact ⟨none, 0, rfl, Nat.le_refl _, fun _ => rfl⟩
theorem len_rel {t : TypeId} {x v : V} {a : Value} {r : Array TypeId} (h : lenOp P t x = some v) (hx : VRel ok w B x a) (ht : r[0]? = some t) (ty : TypeId) :
  ∃ c, (Builtin.len_ r ty #[a]).run P w = .ok c w ∧ VRel ok w B v c := by
 unfold lenOp at h
 split at h
 ·rename_i s hu
  simp only [VRel] at hx; subst hx
  simp only [Option.some.injEq] at h; subst h
  refine ⟨_, by simp [Builtin.len_, ht, r_under hu]; rfl, by simp [VRel, goInt, ByteArray.size]⟩
 ·rename_i n e hu
  simp only [Option.some.injEq] at h; subst h
  exact ⟨_, by simp [Builtin.len_, ht, r_under hu]; rfl, by simp [VRel, goInt]⟩
 ·rename_i e hu
  split at h
  ·rename_i n e' hu'
   simp only [Option.some.injEq] at h; subst h
   exact ⟨_, by simp [Builtin.len_, ht, r_under hu, r_under hu']; rfl, by simp [VRel, goInt]⟩
  ·cases h
 ·rename_i e hu
  split at h
  ·cases h
  ·rename_i hs
   simp only [Option.map_eq_some_iff] at h
   obtain ⟨n, hn, rfl⟩ := h
   obtain ⟨b, cap, rfl, _⟩ := slice_len hn hx hs
   exact ⟨_, by simp [Builtin.len_, ht, r_under hu]; rfl, by simp [VRel, goInt]⟩
 ·rename_i k e hu
  simp only [VRel] at hx; subst hx
  simp only [Option.some.injEq] at h; subst h
  exact ⟨_, by simp [Builtin.len_, ht, r_under hu]; rfl, by simp [VRel, goInt]⟩
 ·cases h
theorem fold_rel {f : V → V → Option V} {g : Value → Value → Sem Value} (hfg : ∀ x y v a b, f x y = some v → VRel ok w B x a → VRel ok w B y b → ∃ c, (g a b).run P w = .ok c w ∧ VRel ok w B v c) :
  ∀ (l : List V) (l' : List Value) (x v : V) (a : Value), foldV f x l = some v → VRel ok w B x a → VRelL ok w B l l' → ∃ c, (l'.foldlM g a).run P w = .ok c w ∧ VRel ok w B v c
 | [], l', x, v, a, h, hx, hl => by
  simp only [foldV, Option.some.injEq] at h; subst h
  simp only [VRelL] at hl; subst hl
  exact ⟨a, by simp, hx⟩
 | y :: r, l', x, v, a, h, hx, hl => by
  simp only [foldV, Option.bind_eq_some_iff] at h
  obtain ⟨z, hz, h⟩ := h
  simp only [VRelL] at hl
  obtain ⟨b, r', rfl, hy, hr⟩ := hl
  obtain ⟨c1, hc1, hv1⟩ := hfg x y z a b hz hx hy
  obtain ⟨c, hc, hv⟩ := fold_rel hfg r r' z v c1 h hv1 hr
  exact ⟨c, by simp [hc1, hc], hv⟩
theorem max_rel (x y v : V) (a b : Value) (h : maxV x y = some v) (ha : VRel ok w B x a) (hb : VRel ok w B y b) : ∃ c, (Builtin.max2 a b).run P w = .ok c w ∧ VRel ok w B v c := by
 unfold maxV at h
 split at h
 ·simp only [VRel] at ha hb; subst ha hb
  simp only [Option.some.injEq] at h; subst h
  exact ⟨_, by simp only [Builtin.max2]; rfl, by simp [VRel]⟩
 ·cases h
theorem min_rel (x y v : V) (a b : Value) (h : minV x y = some v) (ha : VRel ok w B x a) (hb : VRel ok w B y b) : ∃ c, (Builtin.min2 a b).run P w = .ok c w ∧ VRel ok w B v c := by
 unfold minV at h
 split at h
 ·simp only [VRel] at ha hb; subst ha hb
  simp only [Option.some.injEq] at h; subst h
  exact ⟨_, by simp only [Builtin.min2]; rfl, by simp [VRel]⟩
 ·cases h
theorem cap_rel {t e : TypeId} {x : V} {a : Value} {n : Nat} {r : Array TypeId} (h : capV x = some n) (hx : VRel ok w B x a) (ht : r[0]? = some t) (hu : P.underlying t = some (.slice e)) (ty : TypeId) :
  (Builtin.cap_ r ty #[a]).run P w = .ok (.int .i64 n) w := by
 unfold capV at h
 split at h
 ·simp only [VRel] at hx; subst hx
  simp only [Option.some.injEq] at h; subst h
  simp [Builtin.cap_, ht, r_under hu, goInt]
 ·split at h
  ·rename_i hf
   simp only [Option.some.injEq] at h; subst h
   simp only [VRel] at hx
   rcases hx with ⟨b, base, cap, o, rfl, g1, g2, _⟩ | ⟨rfl, rfl⟩
   ·simp [Builtin.cap_, ht, r_under hu, goInt, g2 hf]
   ·simp [Builtin.cap_, ht, r_under hu, goInt]
  ·cases h
 ·cases h
end
end Go.Sim
end
section
namespace Go.Sim
open Go
section
variable {E : Env} {P : Program} {w : World} {ok : Nat → Nat → Prop} {B : Bd} {p : Array Oper → Bool} {h : Heap}
theorem OkLe.self (ok : Nat → Nat → Prop) (w : World) : OkLe ok ok w w := fun b n hb _ => ⟨hb, fun _ _ => rfl⟩
theorem VRel.any {v : V} {c : Value} (hv : VRel ok w Bd.none_ v c) : VRel ok w B v c :=
 VRel.mono (B := Bd.none_) (OkLe.self ok w) (fun _ _ => trivial) v c hv
theorem CRel.values : ∀ {l : List V} {b i : Nat}, CRel ok w b i l → ∃ l' : List Value, ORelL ok w B l l' ∧ ∀ j c, l'[j]? = some c → w.cell? ⟨b, i + j, none⟩ = some c
 | [], b, i, h => ⟨[], by simp [ORelL], by simp⟩
 | v :: r, b, i, h => by
  simp only [CRel] at h
  obtain ⟨⟨c, hc, h1, _, hv⟩, hr⟩ := h
  obtain ⟨l', hl, hg⟩ := CRel.values hr
  refine ⟨c :: l', ?_, ?_⟩
  ·simp only [ORelL]; exact ⟨c, l', rfl, h1, hv.any, hl⟩
  ·intro j x hx
   cases j with
   | zero => simp at hx; subst hx; simpa using hc
   | succ j => simp at hx; have := hg j x hx; rwa [show i + (j + 1) = i + 1 + j from by omega]
theorem HR.row (hh : HR ok w B p h) {d j ep esz : Nat} {cells : List V} {flat plain : Bool} (hg : h.get d j = some (.row cells ep esz flat plain)) (hn : B d j ≠ .out) :
  ∃ b, B d j = .row b ep esz ∧ (flat = true → V.flatL cells = true) ∧ (plain = true → V.plainL cells = true) ∧ RowR ok w (B.from_ d) b cells := by
 have hb := hh.blk d j
 rw [hg] at hb
 cases hE : B d j with
 | out => exact absurd hE hn
 | dead => rw [hE] at hb; simp [BlkR] at hb
 | loop l => rw [hE] at hb; simp [BlkR] at hb
 | mp l => rw [hE] at hb; simp [BlkR] at hb
 | it l => rw [hE] at hb; simp [BlkR] at hb
 | row b ep' esz' =>
  rw [hE] at hb
  simp only [BlkR, Option.some.injEq, Blk.row.injEq] at hb
  obtain ⟨cells', flat', plain', ⟨rfl, rfl, rfl, rfl, rfl⟩, h2, h3, h4⟩ := hb
  exact ⟨b, rfl, h2, h3, h4⟩
theorem upIf_rel {d : Nat} {flat : Bool} {cells : List V} {cs : List Value} (hf : flat = true → V.flatL cells = true) (hr : ORelL ok w (B.from_ d) cells cs) : ORelL ok w B (V.upIf flat d cells) cs := by
 unfold V.upIf
 split
 ·rename_i h; exact ORelL.flat _ _ (hf h) hr
 ·split
  ·rename_i h; subst h; rwa [Bd.from_zero] at hr
  ·exact ORelL.up d _ _ hr
theorem RowR.cell {b : Nat} {cells : List V} (hr : RowR ok w B (some b) cells) : ∃ l' : List Value, ORelL ok w B cells l' ∧ ∀ j c, l'[j]? = some c → w.cell? ⟨b, j, none⟩ = some c := by
 obtain ⟨c, el, lo, hi, h1, h2, c1, c2, h3, h4⟩ := hr
 refine ⟨c1, h4, fun j x hx => ?_⟩
 have : c[j]? = some x := by
  have hlt : j < c1.length := by
   rcases Nat.lt_or_ge j c1.length with h | h
   ·exact h
   ·simp [List.getElem?_eq_none h] at hx
  rw [← Array.getElem?_toList, h3, List.getElem?_append_left hlt]; exact hx
 simp [World.cell?, h1, this]
theorem flatL_take : ∀ {l : List V} (n : Nat), V.flatL l = true → V.flatL (l.take n) = true
 | [], n, h => by simpa using h
 | v :: r, 0, h => by simp [V.flatL]
 | v :: r, n + 1, h => by
  simp only [V.flatL, List.take_succ_cons, Bool.and_eq_true] at h ⊢
  exact ⟨h.1, flatL_take n h.2⟩
theorem flatL_drop : ∀ {l : List V} (n : Nat), V.flatL l = true → V.flatL (l.drop n) = true
 | [], n, h => by simpa using h
 | v :: r, 0, h => by simpa using h
 | v :: r, n + 1, h => by
  simp only [V.flatL, List.drop_succ_cons, Bool.and_eq_true] at h ⊢
  exact flatL_drop n h.2
theorem flatL_append : ∀ {a b : List V}, V.flatL a = true → V.flatL b = true → V.flatL (a ++ b) = true
 | [], b, _, h => h
 | v :: r, b, h, h' => by
  simp only [V.flatL, List.cons_append, Bool.and_eq_true] at h ⊢
  exact ⟨h.1, flatL_append h.2 h'⟩
theorem load_rel (hh : HR ok w B p h) {a : V} {a' : Value} {n : Nat} {l : List V} (hl : h.load a n = some l) (ha : VRel ok w B a a') :
  ∃ x l', a' = .pointer (some x) ∧ l'.length = n ∧ (∀ j c, l'[j]? = some c → w.cell? (x.add j) = some c) ∧ ORelL ok w B l l' := by
 unfold Heap.load at hl
 split at hl
 ·rename_i d j off ep
  split at hl
  ·rename_i cells ep' esz flat plain hg
   split at hl
   ·rename_i he
    simp only [Option.map_eq_some_iff] at hl
    obtain ⟨l0, hl0, rfl⟩ := hl
    obtain ⟨e1, e2, e3⟩ := loadN_eq hl0
    have hn : B d j ≠ .out := by intro hE; simp only [VRel, hE] at ha
    obtain ⟨b, hE, hf, _, hr⟩ := hh.row hg hn
    simp only [VRel, hE] at ha
    rcases ha with ⟨hlt, _⟩ | ⟨_, b0, rfl, rfl⟩
    ·omega
    ·obtain ⟨l', hl', hc⟩ := RowR.cell hr
     have hlen := hl'.length
     refine ⟨_, (l'.drop off).take n, rfl, ?_, ?_, ?_⟩
     ·have h1 := congrArg List.length e1
      simp only [List.length_take, List.length_drop] at h1 ⊢
      omega
     ·intro k c hk
      rw [Addr.add_plain]
      simp only [List.getElem?_take] at hk
      split at hk
      ·rw [List.getElem?_drop] at hk; exact hc _ _ hk
      ·cases hk
     ·rw [e1]
      exact upIf_rel (fun h => flatL_take n (flatL_drop off (hf h))) ((hl'.drop off).take n)
   ·cases hl
  ·cases hl
 ·rename_i cells off
  obtain ⟨e1, e2, e3⟩ := loadN_eq hl
  simp only [VRel] at ha
  obtain ⟨b, base, rfl, hr⟩ := ha
  obtain ⟨l', hl', hc⟩ := CRel.values (B := B) ((hr.drop off).take n)
  rw [← e1] at hl'
  refine ⟨_, l', rfl, by rw [← hl'.length, e3], ?_, hl'⟩
  intro k c hk
  rw [Addr.add_plain]
  exact hc k c hk
 ·cases hl
theorem slice_cells_rel (hh : HR ok w B p h) {s : V} {s' : Value} {k n : Nat} {l : List V} (hl : h.sliceCells s k n = some l) (hs : VRel ok w B s s') :
  ∃ a len cap l', s' = .slice a len cap ∧ l'.length = n * k ∧ (a = none → n = 0) ∧ (∀ x, a = some x → ∀ j c, l'[j]? = some c → w.cell? (x.add j) = some c) ∧ ORelL ok w B l l' := by
 unfold Heap.sliceCells at hl
 split at hl
 ·split at hl
  ·rename_i hn
   simp only [Option.some.injEq] at hl; subst hl
   simp only [VRel] at hs; subst hs
   exact ⟨none, 0, 0, [], rfl, by simp [hn], fun _ => hn, by simp, by simp [ORelL]⟩
  ·cases hl
 ·rename_i d j off len ep q
  split at hl
  ·rename_i cells ep' esz flat plain hg
   split at hl
   ·rename_i hc
    obtain ⟨hep, hnl, hfit⟩ := hc
    simp only [Option.some.injEq] at hl; subst hl
    have hn : B d j ≠ .out := by intro hE; simp only [VRel, hE] at hs
    obtain ⟨b, hE, hf, _, hr⟩ := hh.row hg hn
    simp only [VRel, hE] at hs
    rcases hs with ⟨hlt, _⟩ | ⟨_, hs⟩
    ·omega
    ·rcases hs with ⟨b0, cap, o, rfl, rfl, g1, g2, g3, g4⟩ | ⟨rfl, rfl, rfl, _, rfl⟩
     ·obtain ⟨l', hl', hc⟩ := RowR.cell hr
      have hlen := hl'.length
      refine ⟨_, _, _, (l'.drop off).take (n * k), rfl, ?_, by simp, ?_, upIf_rel (fun h => flatL_take _ (flatL_drop off (hf h))) ((hl'.drop off).take _)⟩
      ·simp only [List.length_take, List.length_drop]; omega
      ·intro x hx i c hi
       simp only [Option.some.injEq] at hx; subst hx
       rw [Addr.add_plain]
       simp only [List.getElem?_take] at hi
       split at hi
       ·rename_i hlt
        rw [List.getElem?_drop] at hi
        have : 0 < cap := by
         rcases Nat.eq_zero_or_pos n with rfl | hp
         ·simp at hlt
         ·omega
        rw [g3 this]
        exact hc _ _ hi
       ·cases hi
     ·obtain rfl : n = 0 := by omega
      refine ⟨none, 0, 0, [], rfl, by simp, fun _ => rfl, by simp, ?_⟩
      simp [V.upIf, V.upL, ORelL]
   ·cases hl
  ·cases hl
 ·rename_i cells off len full
  split at hl
  ·rename_i hc
   obtain ⟨hnl, hfit⟩ := hc
   simp only [Option.some.injEq] at hl; subst hl
   simp only [VRel] at hs
   rcases hs with ⟨b, base, cap, o, rfl, g1, g2, g3, hr⟩ | ⟨rfl, rfl⟩
   ·obtain ⟨l', hl', hcv⟩ := CRel.values (B := B) ((hr.drop off).take (n * k))
    refine ⟨_, _, _, l', rfl, ?_, by simp, ?_, hl'⟩
    ·rw [← hl'.length]; simp only [List.length_take, List.length_drop]; omega
    ·intro x hx i c hi
     simp only [Option.some.injEq] at hx; subst hx
     have : 0 < cap := by
      rcases Nat.eq_zero_or_pos n with rfl | hp
      ·have := hl'.length; simp at this; rw [List.getElem?_eq_none (by omega)] at hi; cases hi
      ·omega
     rw [g3 this, Addr.add_plain]
     exact hcv i c hi
   ·obtain rfl : n = 0 := by omega
    exact ⟨none, 0, 0, [], rfl, by simp, fun _ => rfl, by simp, by simp [ORelL]⟩
  ·cases hl
 ·cases hl
theorem loadV_rel (hh : HR ok w B p h) {t : TypeId} {a v : V} {a' : Value} (hl : loadV P h t a = some v) (ha : VRel ok w B a a') :
  ∃ c, (Instr.loadAt t a').run P w = .ok c w ∧ VRel ok w B v c := by
 simp only [loadV, Option.bind_eq_some_iff] at hl
 obtain ⟨g, hg, hl⟩ := hl
 have hag := r_isAgg (w := w) hg
 cases g with
 | true =>
  simp only [if_true, Option.bind_eq_some_iff, Option.map_eq_some_iff] at hl
  obtain ⟨n, hn, l, hl, rfl⟩ := hl
  obtain ⟨x, l', rfl, hlen, hc, hr⟩ := load_rel hh hl ha
  have hrun := run_loadCells_list (P := P) w x l' hc
  rw [hlen] at hrun
  refine ⟨.agg l'.toArray, by simp [Instr.loadAt, Instr.sureAddr, loadVar, hag, r_size hn, hrun], ?_⟩
  simp only [VRel]
  exact ⟨l', rfl, hr⟩
 | false =>
  simp only [Bool.false_eq_true, if_false, Option.bind_eq_some_iff] at hl
  obtain ⟨l, hl, hv⟩ := hl
  obtain ⟨x, l', rfl, hlen, hc, hr⟩ := load_rel hh hl ha
  obtain ⟨c, hg0, h1, hrel⟩ := hr.get hv
  have := hc 0 c hg0
  have hz : x.add 0 = x := by cases x; unfold Addr.add; split <;> simp_all
  rw [hz] at this
  exact ⟨c, by simp [Instr.loadAt, Instr.sureAddr, loadVar, hag, this], hrel⟩
theorem nilCheck_rel {x v : V} {a : Value} (hq : nilCheckV x = some v) (hx : VRel ok w B x a) : VRel ok w B v a := by
 unfold nilCheckV at hq
 split at hq <;> simp only [Option.some.injEq, reduceCtorEq] at hq <;> subst hq <;> exact hx
end
end Go.Sim
end
section
namespace Go.Sim
open Go
section
variable {E : Env} {P : Program} {w : World} {ok : Nat → Nat → Prop} {B : Bd} {p : Array Oper → Bool} {h : Heap}
theorem Heap.get_push (hp : 0 < h.length) (b : Blk) (d j : Nat) : (h.push b).get d j = if d = 0 ∧ j = h.top.length then some b else h.get d j := by
 cases h with
 | nil => simp at hp
 | cons l r =>
  cases d with
  | zero =>
   simp only [Heap.push, Heap.setTop, Heap.top, Heap.get, List.set_cons_zero, List.getElem?_cons_zero, Option.getD_some, Option.bind_some, true_and, List.getElem?_append]
   split
   ·rw [if_neg (by omega)]
   ·split
    ·rename_i h1; subst h1; simp
    ·rename_i h1 h2
     rw [List.getElem?_eq_none (by omega : l.length ≤ j), List.getElem?_eq_none (by simp; omega)]
  | succ d => simp [Heap.push, Heap.setTop, Heap.top, Heap.get]
theorem Heap.length_push (b : Blk) : (h.push b).length = h.length := by simp [Heap.push, Heap.setTop]
theorem Heap.top_push (hp : 0 < h.length) (b : Blk) : (h.push b).top = h.top ++ [b] := by
 cases h with
 | nil => simp at hp
 | cons l r => simp [Heap.push, Heap.setTop, Heap.top]
theorem HR.none_out (hh : HR ok w B p h) {d j : Nat} (hg : h.get d j = none) : B d j = .out := by
 have hb := hh.blk d j
 rw [hg] at hb
 cases hE : B d j with
 | out => rfl
 | dead => rw [hE] at hb; simp [BlkR] at hb
 | loop l => rw [hE] at hb; simp [BlkR] at hb
 | mp l => rw [hE] at hb; simp [BlkR] at hb
 | it l => rw [hE] at hb; simp [BlkR] at hb
 | row b ep' esz' => rw [hE] at hb; simp [BlkR] at hb
theorem HR.top_out (hh : HR ok w B p h) : B 0 h.top.length = .out := by
 apply hh.none_out
 have := hh.pos
 cases h with
 | nil => simp at this
 | cons l r => simp [Heap.get, Heap.top]
theorem push_blk (hh : HR ok w B p h) (b : Blk) (e : Ent) (o : Obj) (he : ∀ b, e.blk = some b → b = w.heap.size)
  (hb : BlkR ok (w.alloc o) ((B.put 0 h.top.length e).from_ 0) p e (some b)) :
  Ext ok B w ok (B.put 0 h.top.length e) (w.alloc o) ∧ HR ok (w.alloc o) (B.put 0 h.top.length e) p (h.push b) := by
 have hx := Ext.alloc hh 0 h.top.length e hh.top_out he o
 refine ⟨hx, HR.put hx hh (by rw [Heap.length_push]; exact hh.pos) ?_ ?_ ?_ ?_⟩
 ·intro d j b' hne hb'
  exact heap_push_lt w o (hh.lt d j b' hb')
 ·intro d j hne _
  rw [Heap.get_push hh.pos, if_neg hne]
 ·intro b' hb'
  obtain rfl := he b' hb'
  refine ⟨by simp, fun n hok => ?_, fun d j _ hm => ?_⟩
  ·have := (hh.okn _ _ hok).1; omega
  ·have := hh.lt d j _ hm; omega
 ·rw [Heap.get_push hh.pos, if_pos ⟨rfl, rfl⟩]; exact hb
theorem push_none (hh : HR ok w B p h) (b : Blk) (e : Ent) (he : e.blk = none) (hb : BlkR ok w ((B.put 0 h.top.length e).from_ 0) p e (some b)) :
  Ext ok B w ok (B.put 0 h.top.length e) w ∧ HR ok w (B.put 0 h.top.length e) p (h.push b) := by
 have hx : Ext ok B w ok (B.put 0 h.top.length e) w := by
  refine ⟨Nat.le_refl _, rfl, rfl, rfl, fun _ _ _ => rfl, OkLe.refl _ _, fun _ _ _ h => .inl h, fun d j => ?_, fun d j b' hb' _ => ?_⟩
  ·by_cases hq : d = 0 ∧ j = h.top.length
   ·obtain ⟨rfl, rfl⟩ := hq; rw [hh.top_out]; trivial
   ·rw [Bd.put_other B e hq]; exact EntLe.refl _ fun _ _ => Nat.le_refl _
  ·by_cases hq : d = 0 ∧ j = h.top.length
   ·obtain ⟨rfl, rfl⟩ := hq; rw [Bd.put_same, he] at hb'; cases hb'
   ·rw [Bd.put_other B e hq] at hb'; exact hb'
 refine ⟨hx, HR.put hx hh (by rw [Heap.length_push]; exact hh.pos) (fun _ _ _ _ _ => rfl) ?_ ?_ ?_⟩
 ·intro d j hne _
  rw [Heap.get_push hh.pos, if_neg hne]
 ·intro b' hb'
  rw [he] at hb'; cases hb'
 ·rw [Heap.get_push hh.pos, if_pos ⟨rfl, rfl⟩]; exact hb
theorem new_row_fr (hh : HR ok w B p h) {cells : List V} {cs : Array Value} (el : TypeId) (esz : Nat) (fr : Nat × Nat) (hfr : fr.1 = fr.2 ∨ cs.size ≤ fr.1) {c1 c2 : List Value} (hcs : cs.toList = c1 ++ c2) (hr : ORelL ok w B cells c1) :
  Ext ok B w ok (B.put 0 h.top.length (.row (some w.heap.size) 0 esz)) (w.alloc (.cells cs el fr)) ∧
  HR ok (w.alloc (.cells cs el fr)) (B.put 0 h.top.length (.row (some w.heap.size) 0 esz)) p (newRow h cells esz).2 := by
 have he : ∀ b, (Ent.row (some w.heap.size) 0 esz).blk = some b → b = w.heap.size := fun b hb => by simp only [Ent.blk, Option.some.injEq] at hb; exact hb.symm
 have hx := Ext.alloc hh 0 h.top.length (.row (some w.heap.size) 0 esz) hh.top_out he (.cells cs el fr)
 refine push_blk hh _ _ _ he ?_
 refine ⟨cells, _, _, rfl, id, id, cs, el, fr.1, fr.2, heap_push_new w _, hfr, c1, c2, hcs, ?_⟩
 rw [Bd.from_zero]
 exact hx.orelL hh hr
theorem new_row (hh : HR ok w B p h) {cells : List V} {cs : Array Value} (el : TypeId) (esz : Nat) {c1 c2 : List Value} (hcs : cs.toList = c1 ++ c2) (hr : ORelL ok w B cells c1) :
  Ext ok B w ok (B.put 0 h.top.length (.row (some w.heap.size) 0 esz)) (w.alloc (.cells cs el)) ∧
  HR ok (w.alloc (.cells cs el)) (B.put 0 h.top.length (.row (some w.heap.size) 0 esz)) p (newRow h cells esz).2 := new_row_fr hh el esz (0, 0) (.inl rfl) hcs hr
def rowOf (cells : List V) (esz : Nat) : Blk := .row cells 0 esz (V.flatL cells) (V.plainL cells)
theorem HR.pushed (hh : HR ok w B p h) (b : Blk) : HR ok w B p (h.push b) := by
 refine ⟨by rw [Heap.length_push]; exact hh.pos, fun d j => ?_, hh.inj, hh.lt, hh.okn, hh.gl⟩
 rw [Heap.get_push hh.pos]
 by_cases hq : d = 0 ∧ j = h.top.length
 ·obtain ⟨rfl, rfl⟩ := hq
  rw [hh.top_out]; trivial
 ·rw [if_neg hq]; exact hh.blk d j
def AllocAt (ok : Nat → Nat → Prop) (B : Bd) (p : Array Oper → Bool) (P : Program) (w : World) (s : Sem Value) (v : Nat → V) (blk : Blk) : Prop :=
 ∀ (H : Heap) (j : Nat), HR ok w B p H → B 0 j = .out → H.get 0 j = some blk →
  ∃ c w' B', s.run P w = .ok c w' ∧ Ext ok B w ok B' w' ∧ HR ok w' B' p H ∧ VRel ok w' B' (v j) c ∧ ∀ d' j', ¬ (d' = 0 ∧ j' = j) → B' d' j' = B d' j'
theorem AllocAt.push {s : Sem Value} {v : Nat → V} {blk : Blk} (ha : AllocAt ok B p P w s v blk) (hh : HR ok w B p h) :
  ∃ c w' B', s.run P w = .ok c w' ∧ Ext ok B w ok B' w' ∧ HR ok w' B' p (h.push blk) ∧ VRel ok w' B' (v h.top.length) c := by
 obtain ⟨c, w', B', h1, h2, h3, h4, _⟩ := ha (h.push blk) h.top.length (hh.pushed blk) hh.top_out (by rw [Heap.get_push hh.pos, if_pos ⟨rfl, rfl⟩])
 exact ⟨c, w', B', h1, h2, h3, h4⟩
theorem new_at {H : Heap} {j : Nat} (hh : HR ok w B p H) (hout : B 0 j = .out) {cells : List V} {cs : Array Value} (el : TypeId) (esz : Nat) (fr : Nat × Nat) (hfr : fr.1 = fr.2 ∨ cs.size ≤ fr.1) {c1 c2 : List Value}
  (hg : H.get 0 j = some (rowOf cells esz)) (hcs : cs.toList = c1 ++ c2) (hr : ORelL ok w B cells c1) :
  Ext ok B w ok (B.put 0 j (.row (some w.heap.size) 0 esz)) (w.alloc (.cells cs el fr)) ∧
  HR ok (w.alloc (.cells cs el fr)) (B.put 0 j (.row (some w.heap.size) 0 esz)) p H := by
 have he : ∀ b, (Ent.row (some w.heap.size) 0 esz).blk = some b → b = w.heap.size := fun b hb => by simp only [Ent.blk, Option.some.injEq] at hb; exact hb.symm
 have hx := Ext.alloc hh 0 j (.row (some w.heap.size) 0 esz) hout he (.cells cs el fr)
 refine ⟨hx, HR.put hx hh hh.pos ?_ (fun _ _ _ _ => rfl) ?_ ?_⟩
 ·intro d j' b' hne hb'
  exact heap_push_lt w _ (hh.lt d j' b' hb')
 ·intro b' hb'
  obtain rfl := he b' hb'
  refine ⟨by simp, fun n hok => ?_, fun d j _ hm => ?_⟩
  ·have := (hh.okn _ _ hok).1; omega
  ·have := hh.lt d j _ hm; omega
 ·rw [hg]
  refine ⟨cells, _, _, rfl, id, id, cs, el, fr.1, fr.2, heap_push_new w _, hfr, c1, c2, hcs, ?_⟩
  rw [Bd.from_zero]
  exact hx.orelL hh hr
theorem csize_new (cs : Array Value) (el : TypeId) {fr : Nat × Nat} : csize (w.alloc (.cells cs el fr)) w.heap.size = cs.size := by
 unfold csize; rw [heap_push_new]
theorem new_pref (esz : Nat) {w' : World} {n b : Nat} : VRel ok w' (B.put 0 n (.row (some b) 0 esz)) (.pref 0 n 0 0) (.pointer (some ⟨b, 0, none⟩)) := by
 simp only [VRel, Bd.put_same]
 exact .inr ⟨trivial, b, rfl, rfl⟩
theorem new_sref {esz : Nat} {w' : World} {n b len cap k : Nat} {full : Bool} (h1 : len ≤ cap) (h2 : full = true → cap = len) (h3 : cap * k ≤ csize w' b) :
  VRel ok w' (B.put 0 n (.row (some b) 0 esz)) (.sref 0 n 0 len 0 (k, full)) (.slice (some ⟨b, 0, none⟩) len cap) := by
 simp only [VRel, Bd.put_same]
 exact .inr ⟨trivial, .inl ⟨b, cap, 0, rfl, rfl, h1, h2, fun _ => rfl, fun _ => by simpa using h3⟩⟩
theorem ORelL.of_get : ∀ {l : List V} {l' : List Value}, l.length = l'.length → (∀ (i : Nat) (v : V), l[i]? = some v → ∃ c : Value, l'[i]? = some c ∧ one c = true ∧ VRel ok w B v c) → ORelL ok w B l l'
 | [], [], _, _ => by simp [ORelL]
 | [], c :: r, h, _ => by simp at h
 | v :: r, [], h, _ => by simp at h
 | v :: r, c :: r', h, hg => by
  simp only [ORelL]
  obtain ⟨c0, h1, h2, h3⟩ := hg 0 v rfl
  simp at h1; subst h1
  exact ⟨c, r', rfl, h2, h3, ORelL.of_get (by simpa using h) fun i v hi => by simpa using hg (i + 1) v (by simpa using hi)⟩
theorem rep_eq (z : List V) (n : Nat) : rep z n = (List.replicate n z).flatten := by
 unfold rep
 split
 ·simp
 ·rfl
theorem rep_length (z : List V) (n : Nat) : (rep z n).length = n * z.length := by rw [rep_eq]; simp
theorem flatten_get {α : Type} (z : List α) : ∀ (n i : Nat), i < n * z.length → (List.replicate n z).flatten[i]? = z[i % z.length]?
 | 0, i, h => by simp at h
 | n + 1, i, h => by
  simp only [List.replicate_succ, List.flatten_cons]
  by_cases hi : i < z.length
  ·rw [List.getElem?_append_left hi, Nat.mod_eq_of_lt hi]
  ·rw [List.getElem?_append_right (by omega), flatten_get z n (i - z.length) (by rw [Nat.add_mul] at h; omega), Nat.mod_eq_sub_mod (a := i) (by omega)]
theorem rep_rel {z : List V} {zs : Array Value} (n : Nat) (hr : ORelL ok w B z zs.toList) : ORelL ok w B (rep z n) ((Array.range (n * zs.size)).map fun i => zs[i % zs.size]!).toList := by
 have hlen := hr.length
 simp at hlen
 apply ORelL.of_get
 ·rw [rep_length]; simp [hlen]
 ·intro i v hi
  have hlt : i < n * z.length := by
   rcases Nat.lt_or_ge i (rep z n).length with h | h
   ·rwa [rep_length] at h
   ·simp [List.getElem?_eq_none h] at hi
  rw [rep_eq, flatten_get z n i hlt] at hi
  obtain ⟨c, hc, h1, hv⟩ := hr.get hi
  refine ⟨c, ?_, h1, hv⟩
  rw [hlen] at hlt hc
  have hlt2 : i < (Array.range (n * zs.size)).toList.length := by simpa using hlt
  have hm : i % zs.size < zs.size := by
   apply Nat.mod_lt
   rcases Nat.eq_zero_or_pos zs.size with h0 | h0
   ·rw [h0] at hlt; simp at hlt
   ·exact h0
  have hcc : zs[i % zs.size]! = c := by
   rw [getElem!_pos zs (i % zs.size) hm]
   have : zs.toList[i % zs.size]? = some zs[i % zs.size] := by simp [hm]
   rw [this] at hc
   simpa using hc
  simp [hlt, hcc]
theorem alloc_rel {elem : TypeId} {z : V} (hz : zeroV P elem = some z) (hok : okCells z.cells = true) :
  AllocAt ok B p P w (Instr.alloc elem true (.tuple #[])) (fun j => .pref 0 j 0 0) (rowOf z.cells z.cells.length) := by
 intro H j hh hout hg
 obtain ⟨zv, hzr, hzv⟩ := r_zero (w := w) hz
 have hc := zero_cells (ok := ok) (w := w) (B := B) hzv
 obtain ⟨hx, hh'⟩ := new_at hh hout (cs := zv.cells) elem z.cells.length (0, 0) (.inl rfl) hg (c2 := []) (by simp) hc
 exact ⟨_, _, _, by simp [Instr.alloc, hzr, newVar, Go.newRow], hx, hh', new_pref _, fun d' j' hq => Bd.put_other B _ hq⟩
theorem box_rel (elem : TypeId) {x : V} {a : Value} (hok : okCells x.cells = true) (hx : VRel ok w B x a) :
  AllocAt ok B p P w (Instr.box elem a) (fun j => .pref 0 j 0 0) (rowOf x.cells x.cells.length) := by
 intro H j hh hout hg
 obtain ⟨hx, hh'⟩ := new_at hh hout (cs := a.cells) elem x.cells.length (0, 0) (.inl rfl) hg (c2 := []) (by simp) (VRel.cells hok hx)
 exact ⟨_, _, _, by simp [Instr.box, newVar, Go.newRow], hx, hh', new_pref _, fun d' j' hq => Bd.put_other B _ hq⟩
theorem buildSlice_rel {t elem : TypeId} {len k : Nat} {z : V} {parts : List (Nat × V)} {parts' : Array (Nat × Value)} {cells : List V}
  (hu : P.underlying t = some (.slice elem)) (hk : sizeV P elem = some k) (hz : zeroV P elem = some z) (hle : len * k ≤ 2 ^ 20) (hzk : z.cells.length = k) (h0 : 0 < k)
  (hf : fillV (fun i => some (i * k, k)) (rep z.cells len) parts = some cells) (hp : PartsRel ok w B parts parts'.toList) :
  AllocAt ok B p P w (Instr.buildSlice t len parts') (fun j => .sref 0 j 0 len 0 (k, true)) (rowOf cells k) := by
 intro H j hh hout hg
 obtain ⟨zv, hzr, hzv⟩ := r_zero (w := w) hz
 have hc := zero_cells (ok := ok) (w := w) (B := B) hzv
 have hzl : zv.cells.size = k := by have := hc.length; simp at this; omega
 have hrep := rep_rel len hc
 rw [hzl] at hrep
 have hn : ¬ 2 ^ 24 < len * k := by omega
 have hlen : ∀ {cs out : List V} {ps : List (Nat × V)} {pl : Nat → Option (Nat × Nat)}, fillV pl cs ps = some out → out.length = cs.length := by
  intro cs out ps
  induction ps generalizing cs with
  | nil => intro pl h; simp [fillV] at h; rw [h]
  | cons a r ih =>
   intro pl h
   obtain ⟨i, v⟩ := a
   simp only [fillV] at h
   split at h
   ·cases h
   ·split at h
    ·rw [ih h, storeN_length]
    ·cases h
 have hcl : cells.length = len * k := by rw [hlen hf, rep_length, hzk]
 by_cases hlk : len * k = 0
 ·have hl0 : len = 0 := by
   rcases Nat.mul_eq_zero.1 hlk with h | h
   ·exact h
   ·omega
  subst hl0
  have hrep0 : ORelL ok w B (rep z.cells 0) (#[] : Array Value).toList := by simpa using hrep
  obtain ⟨out', ho, hrel⟩ := fill_rel hf hp hrep0
  obtain ⟨hx, hh'⟩ := new_at hh hout (cs := out') elem k (0, 0) (.inl rfl) hg (c2 := []) (by simp) hrel
  refine ⟨_, _, _, ?_, hx, hh', new_sref (Nat.le_refl _) (fun _ => rfl) (by simp), fun d' j' hq => Bd.put_other B _ hq⟩
  have hz0 : (Array.range 0).map (fun _ => (default : Value)) = #[] := by simp [Array.range]
  simp [Instr.buildSlice, r_under hu, r_size hk, Go.newRow, hz0, ho]
 ·obtain ⟨out', ho, hrel⟩ := fill_rel hf hp hrep
  obtain ⟨hx, hh'⟩ := new_at hh hout (cs := out') elem k (0, 0) (.inl rfl) hg (c2 := []) (by simp) hrel
  refine ⟨_, _, _, ?_, hx, hh', new_sref (Nat.le_refl _) (fun _ => rfl) (by rw [csize_new]; have := hrel.length; simp at this; omega), fun d' j' hq => Bd.put_other B _ hq⟩
  simp only [Instr.buildSlice, Sem.run_bind, r_under hu, Result.andThen_ok, r_size hk]
  rw [if_neg (by omega)]
  simp [hlk, hzr, ho, hzl, Go.newRow]
theorem makeSlice_rel {t : TypeId} {l c v : V} {h' : Heap} (hm : makeSliceV P h t l c = some (v, h')) :
  ∃ (vf : Nat → V) (blk : Blk), v = vf h.top.length ∧ h' = h.push blk ∧ ∀ (ok : Nat → Nat → Prop) (B : Bd) (p : Array Oper → Bool) (w : World) (l' c' : Value), VRel ok w B l l' → VRel ok w B c c' → AllocAt ok B p P w (Instr.makeSlice t l' c') vf blk := by
 unfold makeSliceV at hm
 split at hm
 ·rename_i elem l c hu
  simp only [Option.bind_eq_some_iff] at hm
  obtain ⟨z, hz, by_, hby, n, hn, hm⟩ := hm
  split at hm
  ·rename_i hcond
   obtain ⟨h1, h2, h3, h4, h5⟩ := hcond
   simp only [Option.some.injEq, Prod.mk.injEq] at hm
   obtain ⟨rfl, rfl⟩ := hm
   refine ⟨fun j => .sref 0 j 0 l.toNat 0 (n, l == c), rowOf (rep z.cells l.toNat) n, rfl, rfl, ?_⟩
   intro ok B p w l' c' hl hc
   simp only [VRel] at hl hc; subst hl hc
   intro H j hh hout hg
   obtain ⟨i, hi, hib⟩ := r_bytes hby
   have his : i.size = n := by simp only [sizeV, hi, Option.map_some, Option.some.injEq] at hn; exact hn
   have hzz : ∃ zv, i.zero = some zv ∧ ofValue zv = some z := by
    simp only [zeroV, hi, Option.bind_some, Option.bind_eq_some_iff] at hz; exact hz
   obtain ⟨zv, hiz, hzv⟩ := hzz
   have hzc := zero_cells (ok := ok) (w := w) (B := B) hzv
   have hzl : zv.cells.size = n := by have := hzc.length; simp at this; omega
   have hrun := run_make (P := P) w t elem i zv hu hi hiz .i64 .i64 l c h1 h2 (by rw [hib, Int.mul_comm]; exact Int.le_trans h3 (by decide)) (Int.le_trans h4 (by decide))
   rw [his] at hrun
   have hrep := rep_rel c.toNat hzc
   rw [hzl] at hrep
   have hcells : ∃ c1 c2 : List Value, (madeCells zv.cells (c.toNat * n)).toList = c1 ++ c2 ∧ ORelL ok w B (rep z.cells l.toNat) c1 := by
    refine ⟨(madeCells zv.cells (c.toNat * n)).toList.take (l.toNat * n), (madeCells zv.cells (c.toNat * n)).toList.drop (l.toNat * n), (List.take_append_drop _ _).symm, ?_⟩
    have ht : rep z.cells l.toNat = (rep z.cells c.toNat).take (l.toNat * n) := by
     have hle : l.toNat ≤ c.toNat := by omega
     apply List.ext_getElem?
     intro j
     rw [List.getElem?_take]
     have hmul : l.toNat * n ≤ c.toNat * n := Nat.mul_le_mul_right n hle
     split
     ·rename_i hj
      rw [rep_eq, rep_eq, flatten_get _ _ _ (by rw [h5]; omega), flatten_get _ _ _ (by rw [h5]; omega)]
     ·rw [List.getElem?_eq_none (by rw [rep_length, h5]; omega)]
    rw [ht]
    apply ORelL.take
    unfold madeCells
    rw [hzl]
    exact hrep
   obtain ⟨c1, c2, e1, e2⟩ := hcells
   obtain ⟨hx, hh'⟩ := new_at hh hout elem n (0, 0) (.inl rfl) hg e1 e2
   refine ⟨_, _, _, hrun, hx, hh', new_sref (by omega) (fun hf => ?_) (by rw [csize_new, size_madeCells]; exact Nat.le_refl _), fun d' j' hq => Bd.put_other B _ hq⟩
   simp at hf; omega
  ·cases hm
 ·cases hm
end
end Go.Sim
end
