/- A part of the proof of DirectDifferences: see the last text of this claim. -/
import Derived.Defers
import Derived.Recover
import Derived.Orders
import Derived.Laws.IdiomCopy
import Derived.Laws.Cells
import Derived.Laws.AppendOwn
import Derived.Laws.Tables
import Derived.Laws.Slices
import Derived.Laws.StructEq
import Derived.IntWalk
import Derived.Laws.Strings
namespace Go.Abs
noncomputable section
open Go
/-! ## Plain data: what the elements of a slice that is read may be -/
inductive Val where
  | mk (kind n e : Int) (s : List UInt8) (nn : Bool) (names : List (List UInt8)) (ni : Bool) (items : List Val)
def Val.kind : Val → Int | .mk k _ _ _ _ _ _ _ => k
def Val.n : Val → Int | .mk _ n _ _ _ _ _ _ => n
def Val.e : Val → Int | .mk _ _ e _ _ _ _ _ => e
def Val.s : Val → List UInt8 | .mk _ _ _ s _ _ _ _ => s
def Val.nn : Val → Bool | .mk _ _ _ _ b _ _ _ => b
def Val.names : Val → List (List UInt8) | .mk _ _ _ _ _ l _ _ => l
def Val.ni : Val → Bool | .mk _ _ _ _ _ _ b _ => b
def Val.items : Val → List Val | .mk _ _ _ _ _ _ _ l => l
instance : Inhabited Val := ⟨.mk 0 0 0 [] true [] true []⟩
abbrev Str := List UInt8
structure Nod where
  kind : Int
  n : Int
  text : Str
  names : List Str
  args : List Int
  deriving Inhabited
structure Bnd where
  name : Str
  value : Val
  deriving Inhabited
structure Bra where
  kind : Int
  number : Int
  jump : Int
  guard : List Nod
  text : Str
  name : Str
  terms : List (List Nod)
  names : List Str
  deriving Inhabited
structure Ins where
  op : Int
  jump : Int
  number : Int
  text : Str
  names : List Str
  terms : List (List Nod)
  branches : List Bra
  deriving Inhabited
structure Cod where
  name : Str
  params : List Str
  altstep : Bool
  instrs : List Ins
  deriving Inhabited
structure Cty where
  name : Str
  ports : List Str
  timers : List Str
  vars : List Bnd
  deriving Inhabited
structure Rul where
  port : Str
  when : List Nod
  to : Str
  reply : List Nod
  delay : Int
  deriving Inhabited
structure Frm where
  code : Int
  pos : Int
  vars : List Bnd
  result : Str
  alt : Int
  deriving Inhabited
structure Dfl where
  number : Int
  code : Int
  args : List Val
  deriving Inhabited
structure Cmp where
  type : Int
  alive : Bool
  state : Int
  verdict : Int
  vars : List Bnd
  frames : List Frm
  defaults : List Dfl
  deriving Inhabited
structure Msg where
  kind : Int
  name : Str
  value : Val
  sender : Int
  deriving Inhabited
structure Prt where
  owner : Int
  name : Str
  isOpen : Bool
  queue : List Msg
  deriving Inhabited
structure Lnk where
  a : Int
  b : Int
  deriving Inhabited
structure Pmp where
  port : Int
  system : Str
  deriving Inhabited
structure Tmr where
  owner : Int
  name : Str
  since : Int
  due : Int
  running : Bool
  expired : Bool
  deriving Inhabited
structure Pnd where
  due : Int
  to : Str
  value : Val
  deriving Inhabited
structure Mev where
  comp : Int
  kind : Int
  text : Str
  name : Str
  value : Val
  other : Int
  deriving Inhabited

/-- the types of elements -/
inductive PT where
  | int | bool | str | strs | val | node | term | bind | bran | instr | code | ctyp | rule | frame | dflt | comp | msg | port | link | pmap | timer | pend | event
  deriving DecidableEq, Inhabited
def El : PT → Type
  | .int => Int | .bool => Bool | .str => Str | .strs => List Str | .val => Val | .node => Nod | .term => List Nod | .bind => Bnd | .bran => Bra | .instr => Ins | .code => Cod
  | .ctyp => Cty | .rule => Rul | .frame => Frm | .dflt => Dfl | .comp => Cmp | .msg => Msg | .port => Prt | .link => Lnk | .pmap => Pmp | .timer => Tmr
  | .pend => Pnd | .event => Mev
/-- a cell of an element -/
inductive Cel where
  | int (n : Int)
  | bool (b : Bool)
  | str (s : Str)
  | sl (t : PT) (l : List (El t))
def Val.cel (v : Val) : List Cel := [.int v.kind, .int v.n, .int v.e, .str v.s, .sl .str v.names, .sl .val v.items]
def cellsT : (t : PT) → El t → List Cel
  | .int, x => [.int x]
  | .bool, x => [.bool x]
  | .str, x => [.str x]
  | .strs, x => [.sl .str x]
  | .val, x => Val.cel x
  | .node, x => [.int (Nod.kind x), .int (Nod.n x), .str (Nod.text x), .sl .str (Nod.names x), .sl .int (Nod.args x)]
  | .term, x => [.sl .node x]
  | .bind, x => .str (Bnd.name x) :: (Bnd.value x).cel
  | .bran, x => [.int (Bra.kind x), .int (Bra.number x), .int (Bra.jump x), .sl .node (Bra.guard x), .str (Bra.text x), .str (Bra.name x), .sl .term (Bra.terms x), .sl .str (Bra.names x)]
  | .instr, x => [.int (Ins.op x), .int (Ins.jump x), .int (Ins.number x), .str (Ins.text x), .sl .str (Ins.names x), .sl .term (Ins.terms x), .sl .bran (Ins.branches x)]
  | .code, x => [.str (Cod.name x), .sl .str (Cod.params x), .bool (Cod.altstep x), .sl .instr (Cod.instrs x)]
  | .ctyp, x => [.str (Cty.name x), .sl .str (Cty.ports x), .sl .str (Cty.timers x), .sl .bind (Cty.vars x)]
  | .rule, x => [.str (Rul.port x), .sl .node (Rul.when x), .str (Rul.to x), .sl .node (Rul.reply x), .int (Rul.delay x)]
  | .frame, x => [.int (Frm.code x), .int (Frm.pos x), .sl .bind (Frm.vars x), .str (Frm.result x), .int (Frm.alt x)]
  | .dflt, x => [.int (Dfl.number x), .int (Dfl.code x), .sl .val (Dfl.args x)]
  | .comp, x => [.int (Cmp.type x), .bool (Cmp.alive x), .int (Cmp.state x), .int (Cmp.verdict x), .sl .bind (Cmp.vars x), .sl .frame (Cmp.frames x), .sl .dflt (Cmp.defaults x)]
  | .msg, x => [.int (Msg.kind x), .str (Msg.name x)] ++ (Msg.value x).cel ++ [.int (Msg.sender x)]
  | .port, x => [.int (Prt.owner x), .str (Prt.name x), .bool (Prt.isOpen x), .sl .msg (Prt.queue x)]
  | .link, x => [.int (Lnk.a x), .int (Lnk.b x)]
  | .pmap, x => [.int (Pmp.port x), .str (Pmp.system x)]
  | .timer, x => [.int (Tmr.owner x), .str (Tmr.name x), .int (Tmr.since x), .int (Tmr.due x), .bool (Tmr.running x), .bool (Tmr.expired x)]
  | .pend, x => [.int (Pnd.due x), .str (Pnd.to x)] ++ (Pnd.value x).cel
  | .event, x => [.int (Mev.comp x), .int (Mev.kind x), .str (Mev.text x), .str (Mev.name x)] ++ (Mev.value x).cel ++ [.int (Mev.other x)]
def width : PT → Nat
  | .int => 1 | .bool => 1 | .str => 1 | .strs => 1 | .val => 6 | .node => 5 | .term => 1 | .bind => 7 | .bran => 8 | .instr => 7 | .code => 4
  | .ctyp => 4 | .rule => 5 | .frame => 5 | .dflt => 3 | .comp => 7 | .msg => 9 | .port => 4 | .link => 2 | .pmap => 2 | .timer => 6
  | .pend => 8 | .event => 11
theorem cellsT_len : ∀ (t : PT) (x : El t), (cellsT t x).length = width t := by
  intro t x; cases t <;> rfl
instance (t : PT) : Inhabited (El t) := by cases t <;> (unfold El; infer_instance)
/-- the i-th element -/
def elAt (t : PT) (l : List (El t)) (i : Nat) : El t := l.getD i default
end
end Go.Abs
namespace Go.Abs
noncomputable section
open Go
/-! ## An abstract interpreter of the model's code: values -/
/-- An abstract value: what is known of a Go value. Slices and pointers lead into blocks of the abstract heap ('O', own) or bear the cells that they lead to ('R', read only). -/
inductive AV where
  | dead
  | bool (b : Bool)
  | int (k : IntKind) (n : Int)
  | str (s : List UInt8)
  | nilp
  | ptrO (id off : Nat)
  | ptrR (cells : List AV) (off : Nat)
  | nils
  | slO (id off es len cap : Nat) (ex : Bool)
  | slR (cells : List AV) (off len cap : Nat) (ex : Bool)
  | slT (t : PT) (l : List (El t)) (ex : Bool)
  | fn (f : Fn) (first captured : List AV)
  | nilf
  | ifc (t : TypeId) (v : AV)
  | nili
  | agg (cs : List AV)
  | tup (vs : List AV)
  deriving Inhabited

/-- an element's cells; those of a list of elements -/
def Cel.av : Cel → AV
  | .int n => .int .i64 n
  | .bool b => .bool b
  | .str s => .str s
  | .sl t l => .slT t l false
def avL (l : List Cel) : List AV := List.rec [] (fun c _ ih => c.av :: ih) l
def avT (t : PT) (x : El t) : List AV := avL (cellsT t x)
def flatT (t : PT) (l : List (El t)) : List AV := l.flatMap (avT t)
open Classical in
def sameT (t : PT) (l : List (El t)) (u : PT) (k : List (El u)) : Bool := decide (HEq l k ∧ t = u)

open Classical in
theorem sameT_iff {t : PT} {l : List (El t)} {u : PT} {k : List (El u)} : sameT t l u k = true ↔ HEq l k ∧ t = u := by unfold sameT; exact decide_eq_true_iff

def AV.cells : AV → List AV
  | .agg cs => cs
  | v => [v]

/-- a value of one cell -/
def one : Value → Bool
  | .agg _ => false
  | .tuple _ => false
  | _ => true

def ofScalar : Value → AV
  | .bool b => .bool b
  | .int k n => .int k n
  | .string s => .str s.data.toList
  | .pointer none => .nilp
  | .slice none l c => bif Nat.beq l 0 && Nat.beq c 0 then .nils else .dead
  | .func (.func f) a b => bif a.toList.isEmpty && b.toList.isEmpty then .fn (.func f) [] [] else .dead
  | .nilFunc => .nilf
  | .nilIface => .nili
  | _ => .dead

def ofValue : Value → AV
  | .agg cs => bif cs.toList.all one then .agg (cs.toList.map ofScalar) else .dead
  | .tuple vs => .tup (vs.toList.map ofScalar)
  | .iface t v => .ifc t (ofScalar v)
  | v => ofScalar v

/-- A binary tree of values, by numbers. -/
inductive T (α : Type) where
  | leaf
  | node (l : T α) (v : Option α) (r : T α)
  deriving Inhabited

def T.get {α : Type} (t : T α) : Nat → Option α :=
  T.rec (fun _ => none) (fun _ v _ ihl ihr i => bif Nat.beq i 0 then v else bif Nat.beq (Nat.mod i 2) 1 then ihl (Nat.div i 2) else ihr (Nat.sub (Nat.div i 2) 1)) t

/-- a tree of one value -/
def T.one {α : Type} (f : Nat) : Nat → α → T α :=
  Nat.rec (fun _ _ => .leaf) (fun _ ih i x => bif Nat.beq i 0 then .node .leaf (some x) .leaf else bif Nat.beq (Nat.mod i 2) 1 then .node (ih (Nat.div i 2) x) none .leaf else .node .leaf none (ih (Nat.sub (Nat.div i 2) 1) x)) f

def T.put {α : Type} (t : T α) : Nat → α → T α :=
  T.rec (fun i x => T.one (Nat.succ i) i x) (fun l v r ihl ihr i x => bif Nat.beq i 0 then .node l (some x) r else bif Nat.beq (Nat.mod i 2) 1 then .node (ihl (Nat.div i 2) x) v r else .node l v (ihr (Nat.sub (Nat.div i 2) 1) x)) t

/-- what else than a row of cells a block is: a hole (nothing is known); a walk over a string; a loop over a function (the frame's temporaries at its begin, the parameters, the codes, what it leaves by, its state) -/
inductive Kind where
  | row
  | hole
  | iter (s : List UInt8) (pos : Nat)
  | loop (n : Nat) (tm : T AV) (params : Array Tmp) (assign body : Code) (jump : Option Code) (state : LoopState)
  deriving Inhabited

structure Blk where
  cells : List AV
  grp : Nat
  base : Nat
  forked : Bool
  frz : Bool
  ver : Nat
  /-- the type of the row's elements; is the row just these cells? -/
  el : Nat
  whole : Bool
  kind : Kind
  deriving Inhabited

structure Heap where
  next : Nat
  m : T Blk
  deriving Inhabited

structure ADef where
  f : FuncId
  args : List AV
  deriving Inhabited

structure St where
  /-- how many temporaries the frame has -/
  n : Nat
  tm : T AV
  h : Heap
  ds : List ADef
  /-- the panic that a deferred call of this very frame's caller may recover -/
  pn : Option AV
  deriving Inhabited

inductive Out where
  | nrm (s : St)
  | ext (id : Nat) (s : St)
  | gto (l : Nat) (s : St)
  | ret (s : St)
  | pan (v : AV) (s : St)
  deriving Inhabited

/-- what a call comes to: a value or a panic -/
inductive Res where
  | val (v : AV) (h : Heap) (pn : Option AV)
  | pan (v : AV) (h : Heap) (pn : Option AV)
  deriving Inhabited

/-- functions without a body that the interpreter knows -/
inductive Ext where
  | same | cmpString | indexByteString | overlaps
  deriving DecidableEq, Inhabited

structure Cfg where
  P : Program
  glob : Nat → AV
  ext : Nat → Option Ext
  /-- calls whose answer is known from elsewhere -/
  spec : FuncId → List AV → Option AV
  /-- functions that are run over a heap of their own, where no argument leads into the caller's -/
  pure : FuncId → Bool
  /-- functions that are run over a heap of one block, where the first argument alone leads into the caller's -/
  own1 : FuncId → Bool := fun _ => false
  /-- what a package-level variable's block holds, word for word -/
  gobj : Nat → Option (List Value) := fun _ => none
  /-- package-level variables that hold some number -/
  gint : Nat → Bool := fun _ => false
  /-- functions that are not run as deferred ones -/
  nodef : FuncId → Bool := fun _ => false
  /-- how many rounds of a loop are gone through -/
  loops : Nat := 1000000
  /-- calls whose answer is known, and what is asked for that -/
  rs : FuncId → List AV → Option (AV × Option Prop) := fun _ _ => none
  /-- what a loop's round leaves behind is dropped -/
  trim : Bool := false
  /-- functions that only read what is handed to them, and answer by a number, a bool or a string -/
  frz : FuncId → Bool := fun _ => false

def evalO (C : Cfg) (tm : T AV) (x : Operand) : AV :=
  match x with
  | .tmp t => match tm.get t with | some v => v | none => .dead
  | .const v => ofValue v
  | .global g => C.glob g
  | .func f => .fn (.func f) [] []

def evalL (C : Cfg) (tm : T AV) : List Operand → List AV
  | [] => []
  | x :: l => evalO C tm x :: evalL C tm l

/-! ### lists -/
def nth {α : Type} (l : List α) : Nat → Option α :=
  List.rec (fun _ => none) (fun a _ ih i => Nat.casesOn i (some a) (fun j => ih j)) l

def takeN {α : Type} (l : List α) : Nat → List α :=
  List.rec (fun _ => []) (fun a _ ih i => Nat.casesOn i [] (fun j => a :: ih j)) l

def dropN {α : Type} (l : List α) : Nat → List α :=
  List.rec (fun _ => []) (fun a l ih i => Nat.casesOn i (a :: l) (fun j => ih j)) l

def lenN {α : Type} (l : List α) : Nat := List.rec 0 (fun _ _ ih => Nat.succ ih) l

/-- vs in the place of what stands in the list from a place on -/
def setCells (cs : List AV) : Nat → List AV → List AV :=
  List.rec (fun _ _ => []) (fun c cs ih i vs => Nat.casesOn i (List.casesOn vs (c :: cs) (fun v vs => v :: ih 0 vs)) (fun j => c :: ih j vs)) cs

/-! ### memory -/
def newBlk (id el : Nat) (whole : Bool) (cells : List AV) : Blk := { cells, grp := id, base := 0, forked := false, frz := false, ver := 0, el, whole, kind := .row }

def Heap.empty : Heap := { next := 0, m := .leaf }
def Heap.add (h : Heap) (b : Blk) : Heap := { next := Nat.succ h.next, m := h.m.put h.next b }
def Heap.new (h : Heap) (el : Nat) (whole : Bool) (cells : List AV) : Heap := h.add (newBlk h.next el whole cells)
def Heap.set (h : Heap) (id : Nat) (b : Blk) : Heap := { next := h.next, m := h.m.put id b }
def Heap.get (h : Heap) (id : Nat) : Option Blk := h.m.get id

def killCells (lo hi : Nat) (cs : List AV) : Nat → List AV :=
  List.rec (fun _ => []) (fun c _ ih i => (bif Nat.ble lo i && Nat.ble (Nat.succ i) hi then .dead else c) :: ih (Nat.succ i)) cs

/-- all cells of a group with coordinates from lo to hi, but for those of block id, are not known any more -/
def killAll (h : Heap) (id grp lo hi : Nat) : Nat → Heap :=
  Nat.rec h (fun j h =>
    bif Nat.beq j id then h else
    match h.get j with
    | some b => bif Nat.beq b.grp grp && b.kind.casesOn true false (fun _ _ => false) (fun _ _ _ _ _ _ _ => false) then h.set j { b with cells := killCells lo hi b.cells b.base, ver := Nat.succ b.ver } else h
    | none => h)

def Kind.isRow (k : Kind) : Bool := k.casesOn true false (fun _ _ => false) (fun _ _ _ _ _ _ _ => false)

def storeAt (h : Heap) (id off : Nat) (vs : List AV) : Option Heap :=
  match h.get id with
  | none => none
  | some b =>
    bif b.frz || !b.kind.isRow || !(Nat.ble (Nat.add off (lenN vs)) (lenN b.cells)) then none else
    bif b.forked then some (killAll (h.set id { b with cells := setCells b.cells off vs, ver := Nat.succ b.ver }) id b.grp (Nat.add b.base off) (Nat.add (Nat.add b.base off) (lenN vs)) h.next)
    else some (h.set id { b with cells := setCells b.cells off vs, ver := Nat.succ b.ver })

def partN (cs : List AV) (off n : Nat) : Option (List AV) :=
  bif Nat.ble (Nat.add off n) (lenN cs) then some (takeN (dropN cs off) n) else none

def cellsAt (h : Heap) (id off n : Nat) : Option (List AV) :=
  match h.get id with
  | none => none
  | some b => bif b.kind.isRow then partN b.cells off n else none

def readAt (h : Heap) (p : AV) (n : Nat) : Option (List AV) :=
  match p with
  | .ptrO id off => cellsAt h id off n
  | .ptrR cs off => partN cs off n
  | _ => none

/-! ### types -/
def isAggD : TypeDesc → Bool
  | .struct _ | .array _ _ => true
  | _ => false

def zeroCells (C : Cfg) (t : TypeId) : Option (List AV) :=
  match C.P.info? t with
  | some i => match i.zero with
    | some v => bif v.cells.toList.all one && Nat.beq (lenN v.cells.toList) i.size then some (v.cells.toList.map ofScalar) else none
    | none => none
  | none => none

def sizeT (C : Cfg) (t : TypeId) : Nat := ((C.P.info? t).map (·.size)).getD 0
def bytesT (C : Cfg) (t : TypeId) : Nat := ((C.P.info? t).map (·.bytes)).getD 0

/-- is the type known? -/
def knownT (C : Cfg) (t : TypeId) : Bool := (C.P.underlying t).isSome
def knownAll (C : Cfg) (l : List Field) : Bool := l.all fun f => knownT C f.type

def mkT (C : Cfg) (t : TypeId) (cs : List AV) : Option AV :=
  match C.P.underlying t with
  | none => none
  | some d => bif isAggD d then some (.agg cs) else match cs with | [c] => some c | _ => none

/-! ### numbers and strings -/
def inR64 : Int → Bool
  | .ofNat m => Nat.ble m 9223372036854775807
  | .negSucc m => Nat.ble m 9223372036854775807
def wrapF (k : IntKind) (n : Int) : Int :=
  match k with
  | .i64 => bif inR64 n then n else k.wrap n
  | _ => k.wrap n

def intAnd (k : IntKind) (x y : Int) : AV := .int k (k.wrap (BitVec.ofInt k.bits x &&& BitVec.ofInt k.bits y).toNat)
def intOr (k : IntKind) (x y : Int) : AV := .int k (k.wrap (BitVec.ofInt k.bits x ||| BitVec.ofInt k.bits y).toNat)
def intXor (k : IntKind) (x y : Int) : AV := .int k (k.wrap (BitVec.ofInt k.bits x ^^^ BitVec.ofInt k.bits y).toNat)
def intAndNot (k : IntKind) (x y : Int) : AV := .int k (k.wrap (BitVec.ofInt k.bits x &&& ~~~ BitVec.ofInt k.bits y).toNat)

def intBin (op : BinOp) (k : IntKind) (x y : Int) : Option AV :=
  match op with
  | .add => some (.int k (wrapF k (x + y)))
  | .sub => some (.int k (wrapF k (x - y)))
  | .mul => some (.int k (wrapF k (x * y)))
  | .quo => bif decide (y = 0) then none else some (.int k (wrapF k (x.tdiv y)))
  | .rem => bif decide (y = 0) then none else some (.int k (x.tmod y))
  | .and => some (intAnd k x y)
  | .or => some (intOr k x y)
  | .xor => some (intXor k x y)
  | .andNot => some (intAndNot k x y)
  | .eql => some (.bool (x == y))
  | .neq => some (.bool (x != y))
  | .lss => some (.bool (decide (x < y)))
  | .leq => some (.bool (decide (x ≤ y)))
  | .gtr => some (.bool (decide (x > y)))
  | .geq => some (.bool (decide (x ≥ y)))
  | _ => none

def shiftN (k : IntKind) (y : Int) : Nat := min y.toNat k.bits
def shiftBin (op : BinOp) (k : IntKind) (x y : Int) : Option AV :=
  bif decide (y < 0) then none else
  match op with
  | .shl => some (.int k (k.wrap (x * 2 ^ shiftN k y)))
  | .shr => some (.int k (x.fdiv (2 ^ shiftN k y)))
  | _ => none

def beqBytes (a : List UInt8) : List UInt8 → Bool :=
  List.rec (fun b => List.casesOn b true (fun _ _ => false)) (fun x _ ih b => List.casesOn b false (fun y b => Nat.beq x.toNat y.toNat && ih b)) a

def strBin (op : BinOp) (x y : List UInt8) : Option AV :=
  match op with
  | .add => bif Nat.ble (Nat.add (lenN x) (lenN y)) 4611686018427387904 then some (.str (x ++ y)) else none
  | .eql => some (.bool (beqBytes x y))
  | .neq => some (.bool (!(beqBytes x y)))
  | .lss => some (.bool (Op.bytesLess x y))
  | .leq => some (.bool (Op.bytesLess x y || beqBytes x y))
  | .gtr => some (.bool (!(Op.bytesLess x y || beqBytes x y)))
  | .geq => some (.bool (!Op.bytesLess x y))
  | _ => none

def eqFields (C : Cfg) (eq : TypeId → AV → AV → Option Bool) (xs ys : List AV) : List Field → Option Bool
  | [] => some true
  | f :: fs => bif f.name == "_" then eqFields C eq xs ys fs else
    match mkT C f.type (takeN (dropN xs f.offset) (sizeT C f.type)), mkT C f.type (takeN (dropN ys f.offset) (sizeT C f.type)) with
    | some x, some y => match eq f.type x y, eqFields C eq xs ys fs with
      | some a, some b => some (a && b)
      | _, _ => none
    | _, _ => none

/-- are two values of a type the same? -/
def eqT (C : Cfg) : Nat → TypeId → AV → AV → Option Bool :=
  Nat.rec (fun _ _ _ => none) (fun _ ih t x y =>
    match C.P.underlying t with
    | some .bool => match x, y with | .bool a, .bool b => some (a == b) | _, _ => none
    | some (.int _) => match x, y with | .int k a, .int k' b => bif decide (k = k') then some (a == b) else none | _, _ => none
    | some .string => match x, y with | .str a, .str b => some (beqBytes a b) | _, _ => none
    | some (.struct fs) => bif C.P.stoodInHeld t || !(knownAll C fs.toList) then none else match x, y with
      | .agg xs, .agg ys => eqFields C ih xs ys fs.toList
      | _, _ => none
    | _ => none)

def isNilS : AV → Option Bool
  | .nils => some true
  | .slO .. => some false
  | .slR .. => some false
  | _ => none
def isNilF : AV → Option Bool
  | .nilf => some true
  | .fn .. => some false
  | _ => none
def isNilP : AV → Option Bool
  | .nilp => some true
  | .ptrO .. => some false
  | .ptrR .. => some false
  | _ => none

/-- one of them nil -/
def eqNil (x y : Option Bool) : Option Bool :=
  match x, y with
  | some true, some b => some b
  | some a, some true => some a
  | _, _ => none

def eqPtr (x y : AV) : Option Bool :=
  match x, y with
  | .ptrO a i, .ptrO b j => bif Nat.beq a b then some (Nat.beq i j) else none
  | x, y => eqNil (isNilP x) (isNilP y)

def eqIfc (C : Cfg) (cx : Bool) (x y : AV) : Option Bool :=
  match x, y with
  | .nili, .nili => bif cx then some true else none
  | .nili, .ifc .. => some false
  | .ifc .., .nili => some false
  | .ifc t x, .ifc u y => bif Nat.beq t u then (bif ((C.P.info? t).map (·.comparable)).getD false then eqT C 8 t x y else none) else some false
  | _, _ => none

def eqAV (C : Cfg) (t : TypeId) (cx : Bool) (x y : AV) : Option Bool :=
  match C.P.underlying t with
  | some (.slice _) => eqNil (isNilS x) (isNilS y)
  | some (.func ..) => eqNil (isNilF x) (isNilF y)
  | some (.pointer e) => bif Nat.beq (sizeT C e) 0 then none else eqPtr x y
  | some (.interface _) => eqIfc C cx x y
  | some (.struct _) => bif C.P.eqGuardType C.P.depth t then none else eqT C 8 t x y
  | some .bool => eqT C 8 t x y
  | _ => none

def binEq (C : Cfg) (t : TypeId) (cx : Bool) (op : BinOp) (x y : AV) : Option AV :=
  match op with
  | .eql => match eqAV C t cx x y with | some b => some (.bool b) | none => none
  | .neq => match eqAV C t cx x y with | some b => some (.bool (!b)) | none => none
  | _ => none

def binInt (op : BinOp) (k : IntKind) (a : Int) (k' : IntKind) (b : Int) : Option AV :=
  match op with
  | .shl => shiftBin .shl k a b
  | .shr => shiftBin .shr k a b
  | op => bif decide (k = k') then intBin op k a b else none

def binA (C : Cfg) (t : TypeId) (cx : Bool) (op : BinOp) (x y : AV) : Option AV :=
  match x with
  | .int k a => match y with | .int k' b => binInt op k a k' b | _ => none
  | .str a => match y with | .str b => strBin op a b | _ => none
  | .dead => none
  | x => binEq C t cx op x y

def unA (op : UnOp) (x : AV) : Option AV :=
  match op, x with
  | .neg, .int k n => some (.int k (wrapF k (0 - n)))
  | .xor, .int k n => some (intXor k (if k.signed then -1 else k.max) n)
  | .not, .bool b => some (.bool !b)
  | _, _ => none

/-! ### slices -/
def lenA : AV → Option Nat
  | .nils => some 0
  | .slO _ _ _ n _ _ => some n
  | .slR _ _ n _ _ => some n
  | .slT _ l _ => some l.length
  | .str s => some (lenN s)
  | _ => none

def bytesCells (s : List UInt8) : List AV := List.rec [] (fun b _ ih => .int .u8 b.toNat :: ih) s

/-- the first n elements (of so many cells each) of a slice or string -/
def firstA (h : Heap) (size n : Nat) : AV → Option (List AV)
  | .nils => some []
  | .slO id off _ _ _ _ => cellsAt h id off (Nat.mul n size)
  | .slR cs off _ _ _ => partN cs off (Nat.mul n size)
  | .slT t l _ => bif Nat.beq size (width t) && Nat.ble n l.length then some (flatT t (l.take n)) else none
  | .str s => bif Nat.beq size 1 then some (bytesCells (takeN s n)) else none
  | _ => none

def appendNew (h : Heap) (e size n : Nat) (cells : List AV) : Option (AV × Heap) :=
  some (.slO h.next 0 size n n false, h.new e false cells)

def roomOk (n bytes : Nat) : Bool := Nat.ble (Nat.mul n bytes) 140737488355328 && Nat.ble n 4611686018427387904

/-- a slice whose capacity is not known is appended to: the new row may be the old one -/
def appendFork (h : Heap) (id off len size n : Nat) (b : Blk) (cells : List AV) : Option (AV × Heap) :=
  some (.slO h.next 0 size (Nat.add len n) (Nat.add len n) false,
    (killAll (h.set id { b with forked := true, ver := Nat.succ b.ver }) h.next b.grp (Nat.add (Nat.add b.base off) (Nat.mul len size)) (Nat.add (Nat.add (Nat.add b.base off) (Nat.mul len size)) (Nat.mul n size)) h.next).add
      { cells, grp := b.grp, base := Nat.add b.base off, forked := true, frz := false, ver := 0, el := b.el, whole := false, kind := .row })

def appendO (h : Heap) (e size bytes : Nat) (id off es len cap : Nat) (ex : Bool) (n : Nat) (new : List AV) : Option (AV × Heap) :=
  bif !(Nat.beq es size) then none else
  bif Nat.ble (Nat.add len n) cap then
    match storeAt h id (Nat.add off (Nat.mul len size)) new with
    | some h => some (.slO id off es (Nat.add len n) cap ex, h)
    | none => none
  else bif !(roomOk (Nat.add len n) bytes) then none else
  match cellsAt h id off (Nat.mul len size) with
  | none => none
  | some old =>
    bif ex then appendNew h e size (Nat.add len n) (old ++ new) else
    match h.get id with
    | none => none
    | some b => bif b.frz || !(Nat.beq b.el e) then none else appendFork h id off len size n b (old ++ new)

def appendR (h : Heap) (e size bytes : Nat) (cs : List AV) (off len cap : Nat) (ex : Bool) (n : Nat) (new : List AV) : Option (AV × Heap) :=
  bif Nat.beq n 0 then some (.slR cs off len cap ex, h) else
  bif Nat.ble (Nat.add len n) cap || !ex || !(roomOk (Nat.add len n) bytes) then none else
  match partN cs off (Nat.mul len size) with
  | some old => appendNew h e size (Nat.add len n) (old ++ new)
  | none => none

/-- all elements of a slice or string -/
def allA (h : Heap) (size n : Nat) (x : AV) : Option (List AV) :=
  match x with
  | .slT t l _ => bif Nat.beq size (width t) then some (flatT t l) else none
  | x => firstA h size n x

def appendT (h : Heap) (e size bytes : Nat) (t : PT) (l : List (El t)) (ex : Bool) (n : Nat) (new : List AV) : Option (AV × Heap) :=
  bif Nat.beq n 0 then some (.slT t l ex, h) else
  bif !ex || !(roomOk (Nat.add l.length n) bytes) || !(Nat.beq size (width t)) then none else
  appendNew h e size (Nat.add l.length n) (flatT t l ++ new)

def appendA (h : Heap) (e size bytes : Nat) (s x : AV) : Option (AV × Heap) :=
  match lenA x with
  | none => none
  | some n =>
  match allA h size n x with
  | none => none
  | some new =>
  match s with
  | .nils => bif Nat.beq n 0 then some (.nils, h) else bif roomOk n bytes then appendNew h e size n new else none
  | .slO id off es len cap ex => appendO h e size bytes id off es len cap ex n new
  | .slR cs off len cap ex => appendR h e size bytes cs off len cap ex n new
  | .slT t l ex => appendT h e size bytes t l ex n new
  | _ => none

def natOf : AV → Option Nat
  | .int _ (.ofNat n) => some n
  | _ => none

def boundA (x : Option AV) (d : Nat) : Option Nat :=
  match x with
  | none => some d
  | some v => natOf v

def cutOk (l h m cap : Nat) : Bool := Nat.ble m cap && (Nat.ble h m && Nat.ble l h)

/-- the bounds of a slice expression (l, h, m) -/
def boundsA (lo hi mx : Option AV) (len cap : Nat) : Option (Nat × Nat × Nat) :=
  match boundA lo 0, boundA hi len, boundA mx cap with
  | some l, some h, some m => bif cutOk l h m cap && (mx.isNone || hi.isSome) then some (l, h, m) else none
  | _, _, _ => none

def sliceS (x : AV) (lo hi mx : Option AV) : Option AV :=
  match x with
  | .str s => bif mx.isNone then (match boundsA lo hi none (lenN s) (lenN s) with
    | some (l, h, _) => some (.str (takeN (dropN s l) (Nat.sub h l)))
    | none => none) else none
  | _ => none

def sliceV (size : Nat) (x : AV) (lo hi mx : Option AV) : Option AV :=
  match x with
  | .nils => match boundsA lo hi mx 0 0 with | some _ => some .nils | none => none
  | .slO id off es len cap ex => bif Nat.beq es size then (match boundsA lo hi mx len cap with
    | some (l, h, m) => some (.slO id (Nat.add off (Nat.mul l size)) es (Nat.sub h l) (Nat.sub m l) (ex || mx.isSome))
    | none => none) else none
  | .slR cs off len cap ex => match boundsA lo hi mx len cap with
    | some (l, h, m) => some (.slR cs (Nat.add off (Nat.mul l size)) (Nat.sub h l) (Nat.sub m l) (ex || mx.isSome))
    | none => none
  | .slT t k ex => bif !(Nat.beq size (width t)) then none else match boundsA lo hi mx k.length k.length with
    | some (l, h, m) => match mx with
      | some _ => some (.slT t ((k.take h).drop l) (Nat.beq h m))
      | none => match hi with
        | some _ => some (.slT t ((k.take h).drop l) false)
        | none => some (.slT t (k.drop l) ex)
    | none => none
  | _ => none

/-- an array's slice, by its address -/
def sliceArr (size n : Nat) (x : AV) (lo hi : Option AV) : Option AV :=
  match boundsA lo hi none n n with
  | some (l, h, _) =>
    match x with
    | .ptrO id off => some (.slO id (Nat.add off (Nat.mul l size)) size (Nat.sub h l) (Nat.sub n l) true)
    | .ptrR cs off => some (.slR cs (Nat.add off (Nat.mul l size)) (Nat.sub h l) (Nat.sub n l) true)
    | _ => none
  | none => none

def addP (x : AV) (n : Nat) : Option AV :=
  match x with
  | .ptrO id off => some (.ptrO id (Nat.add off n))
  | .ptrR cs off => some (.ptrR cs (Nat.add off n))
  | _ => none

/-- not a value of which nothing is known, not the answer of a call -/
def plainA (x : AV) : Bool :=
  match x with
  | .dead => false
  | .tup _ => false
  | _ => true

def fillA (place : Nat → Option (Nat × Nat)) : List (Nat × AV) → List AV → Option (List AV)
  | [], cells => some cells
  | (i, v) :: rest, cells =>
    match place i with
    | none => none
    | some (off, sz) => bif plainA v && (Nat.beq (lenN v.cells) sz && Nat.ble (Nat.add off sz) (lenN cells)) then fillA place rest (setCells cells off v.cells) else none

def repCells (z : List AV) (n : Nat) : List AV := Nat.rec [] (fun _ ih => z ++ ih) n

def bytesOf : List AV → Option (List UInt8)
  | [] => some []
  | c :: cs => match c with
    | .int .u8 n => match bytesOf cs with | some s => some (UInt8.ofNat n.toNat :: s) | none => none
    | _ => none

/-! ### one operation (no call) -/
abbrev OR := Option (AV × Heap)
def keep (h : Heap) (x : Option AV) : OR := match x with | some a => some (a, h) | none => none

def evalParts (C : Cfg) (tm : T AV) : List (Nat × Operand) → List (Nat × AV)
  | [] => []
  | (i, x) :: l => (i, evalO C tm x) :: evalParts C tm l

def opPick (c a b : AV) : Option AV := match c with | .bool c => some (bif c then a else b) | _ => none
def opAlloc (C : Cfg) (h : Heap) (t : TypeId) : OR := match zeroCells C t with | some z => some (.ptrO h.next 0, h.new t true z) | none => none
def opBox (h : Heap) (t : TypeId) (x : AV) : OR := bif plainA x then some (.ptrO h.next 0, h.new t true x.cells) else none

def placeOf (C : Cfg) (d : TypeDesc) (i : Nat) : Option (Nat × Nat) :=
  match d with
  | .struct fs => (fs[i]?).map fun f => (f.offset, sizeT C f.type)
  | .array _ e => some (Nat.mul i (sizeT C e), sizeT C e)
  | _ => none

def opBuild (C : Cfg) (t : TypeId) (parts : List (Nat × AV)) : Option AV :=
  match zeroCells C t, C.P.underlying t with
  | some z, some d => bif (match d with | .struct fs => knownAll C fs.toList | .array _ e => knownT C e | _ => false) then (match fillA (placeOf C d) parts z with | some cs => some (.agg cs) | none => none) else none
  | _, _ => none
def opBuildSlice (C : Cfg) (h : Heap) (t : TypeId) (len : Nat) (parts : List (Nat × AV)) : OR :=
  match C.P.underlying t with
  | some (.slice e) =>
    match zeroCells C e with
    | some z =>
      match fillA (fun i => some (Nat.mul i (sizeT C e), sizeT C e)) parts (repCells z len) with
      | some cs => bif Nat.ble (Nat.mul len (sizeT C e)) 16777216 then some (.slO h.next 0 (sizeT C e) len len true, h.new e true cs) else none
      | none => none
    | none => none
  | _ => none
def opLoad (C : Cfg) (h : Heap) (t : TypeId) (a : AV) : Option AV := match readAt h a (sizeT C t) with | some cs => mkT C t cs | none => none
def opStore (C : Cfg) (h : Heap) (t : TypeId) (a x : AV) : OR :=
  match a with
  | .ptrO id off => bif (plainA x && knownT C t) && Nat.beq (lenN x.cells) (sizeT C t) then (match storeAt h id off x.cells with | some h => some (.tup [], h) | none => none) else none
  | _ => none
def opNilCheck (x : AV) : Option AV :=
  match x with
  | .ptrO id off => some (.ptrO id off)
  | .ptrR cs off => some (.ptrR cs off)
  | .fn (.func f) a b => some (.fn (.func f) a b)
  | .ifc t v => some (.ifc t v)
  | _ => none
def isU8 (d : Option TypeDesc) : Bool := match d with | some (.int .u8) => true | _ => false
def convBytes (C : Cfg) (h : Heap) (s : TypeId) (x : AV) : OR :=
  match C.P.underlying s with
  | some (.slice e) => bif isU8 (C.P.underlying e) then (match lenA x with
    | some n => match firstA h 1 n x with | some cs => (match bytesOf cs with | some s => some (.str s, h) | none => none) | none => none
    | none => none) else none
  | _ => none
/-- a pointer to a type, as a pointer without one -/
def convOut (C : Cfg) (h : Heap) (s : TypeId) (x : AV) : OR :=
  match C.P.underlying s with
  | some (.pointer t) => match x with
    | .ptrO id off => match h.get id with
      | some b => bif b.kind.isRow && (Nat.ble (Nat.succ off) (lenN b.cells) && !(Nat.beq (sizeT C t) 0) && knownT C t) then some (x, h) else none
      | none => none
    | _ => none
  | _ => none
def convBack (C : Cfg) (h : Heap) (s u : TypeId) (x : AV) : OR :=
  match C.P.underlying s with
  | some .unsafePointer => match x with
    | .ptrO id off => match h.get id with
      | some b => bif b.kind.isRow && (b.whole && knownT C u && liesAt C.P C.P.depth b.el (lenN b.cells / C.P.cellsOf b.el) off u 1) then some (x, h) else none
      | none => none
    | _ => none
  | _ => none
def opConvert (C : Cfg) (h : Heap) (s d : TypeId) (x : AV) : OR :=
  bif !(C.P.underlying s).isSome then none else
  match C.P.underlying d with
  | some (.int k) => match x with | .int _ n => some (.int k (wrapF k n), h) | _ => none
  | some .string => match x with
    | .str s => some (.str s, h)
    | .int _ n => some (.str (Utf8.encode n).data.toList, h)
    | x => convBytes C h s x
  | some (.slice e) => match x with
    | .str s => bif isU8 (C.P.underlying e) then some (.slO h.next 0 1 (lenN s) (lenN s) false, h.new e false (bytesCells s)) else none
    | _ => none
  | some .unsafePointer => convOut C h s x
  | some (.pointer u) => convBack C h s u x
  | _ => none
def opMakeSlice (C : Cfg) (h : Heap) (t : TypeId) (l c : AV) : OR :=
  match C.P.underlying t, natOf l, natOf c with
  | some (.slice e), some l, some c =>
    bif Nat.ble l c && roomOk c (bytesT C e) then
      match zeroCells C e with
      | some z => some (.slO h.next 0 (sizeT C e) l c true, h.new e true (repCells z c))
      | none => none
    else none
  | _, _, _ => none
def inRow (h : Heap) (x : AV) (n : Nat) : Bool :=
  match x with
  | .ptrO id off => match h.get id with | some b => b.kind.isRow && Nat.ble (Nat.add off n) (lenN b.cells) | none => false
  | _ => true
def opSlice (C : Cfg) (h : Heap) (t : TypeId) (x : AV) (lo hi mx : Option AV) : Option AV :=
  match C.P.underlying t with
  | some .string => sliceS x lo hi mx
  | some (.slice e) => bif knownT C e then sliceV (sizeT C e) x lo hi mx else none
  | some (.array n e) => bif mx.isSome || !(knownT C e && inRow h x (Nat.mul n (sizeT C e))) then none else sliceArr (sizeT C e) n x lo hi
  | _ => none
def opFieldAddr (C : Cfg) (t : TypeId) (x : AV) (f : Nat) : Option AV :=
  match C.P.underlying t with
  | some (.struct fs) => match fs[f]? with | some f => bif Nat.beq (sizeT C f.type) 0 then none else addP x f.offset | none => none
  | _ => none
def opField (C : Cfg) (t : TypeId) (x : AV) (f : Nat) : Option AV :=
  match C.P.underlying t with
  | some (.struct fs) => match x with
    | .agg cs => match fs[f]? with | some f => mkT C f.type (takeN (dropN cs f.offset) (sizeT C f.type)) | none => none
    | _ => none
  | _ => none
def opIndexAddr (C : Cfg) (t : TypeId) (x i : AV) : Option AV :=
  match natOf i with
  | none => none
  | some i =>
  match C.P.underlying t with
  | some (.array n e) => bif Nat.ble (Nat.succ i) n && knownT C e then addP x (Nat.mul i (sizeT C e)) else none
  | some (.slice e) => match x with
    | .slO id off _ len _ _ => bif Nat.ble (Nat.succ i) len && knownT C e then some (.ptrO id (Nat.add off (Nat.mul i (sizeT C e)))) else none
    | .slR cs off len _ _ => bif Nat.ble (Nat.succ i) len && knownT C e then some (.ptrR cs (Nat.add off (Nat.mul i (sizeT C e)))) else none
    | .slT t l _ => bif Nat.ble (Nat.succ i) l.length && (knownT C e && Nat.beq (sizeT C e) (width t)) then some (.ptrR (avT t (elAt t l i)) 0) else none
    | _ => none
  | _ => none
def opIndex (C : Cfg) (t : TypeId) (x i : AV) : Option AV :=
  match natOf i with
  | none => none
  | some i =>
  match C.P.underlying t with
  | some .string => match x with | .str s => (match nth s i with | some b => some (.int .u8 b.toNat) | none => none) | _ => none
  | some (.array n e) => match x with | .agg cs => bif Nat.ble (Nat.succ i) n then mkT C e (takeN (dropN cs (Nat.mul i (sizeT C e))) (sizeT C e)) else none | _ => none
  | _ => none
def opFunc (f : Fn) (a b : List AV) : Option AV := match f with | .yield _ => none | f => some (.fn f a b)
def opIface (C : Cfg) (t : TypeId) (x : AV) : Option AV := match C.P.underlying t with | none => none | some (.interface _) => none | some _ => some (.ifc t x)
def opExtract (x : AV) (i : Nat) : Option AV := match x with | .tup vs => nth vs i | _ => none
def zeroT (C : Cfg) (t : TypeId) : Option AV := match (C.P.info? t).bind (·.zero) with | some v => some (ofValue v) | none => none
def failT (C : Cfg) (t : TypeId) (ok : Bool) : Option AV := bif ok then (match zeroT C t with | some z => some (.tup [z, .bool false]) | none => none) else none
def opAssert (C : Cfg) (x : AV) (asserted : TypeId) (ok : Bool) : Option AV :=
  match C.P.underlying asserted with
  | none => none
  | some (.interface _) => none
  | some _ => match x with
    | .ifc t y => bif Nat.beq t asserted then some (bif ok then .tup [y, .bool true] else y) else failT C asserted ok
    | .nili => failT C asserted ok
    | _ => none
def opRange (h : Heap) (x : AV) : OR :=
  match x with
  | .str s => some (.ptrO h.next 0, h.add { cells := [], grp := h.next, base := 0, forked := false, frz := true, ver := 0, el := 0, whole := false, kind := .iter s 0 })
  | _ => none
def nextIn (h : Heap) (id : Nat) (b : Blk) (s : List UInt8) (pos : Nat) (cw : Nat × Nat) : OR :=
  some (.tup [.bool true, .int .i64 pos, .int .i32 cw.1], h.set id { b with kind := .iter s (Nat.add pos cw.2), ver := Nat.succ b.ver })
def opNext (h : Heap) (it : AV) : OR :=
  match it with
  | .ptrO id 0 =>
    match h.get id with
    | some b =>
      match b.kind with
      | .iter s pos => bif b.forked then none else bif Nat.ble (Nat.succ pos) (lenN s) then nextIn h id b s pos (Utf8.decode ⟨⟨s⟩⟩ pos) else some (.tup [.bool false], h)
      | _ => none
    | none => none
  | _ => none
def isConstO : Operand → Bool
  | .const _ => true
  | _ => false
def optO (C : Cfg) (tm : T AV) (x : Option Operand) : Option AV := match x with | some x => some (evalO C tm x) | none => none

def opA (C : Cfg) (tm : T AV) (h : Heap) (o : Op) : OR :=
  match o with
  | .move x => some (evalO C tm x, h)
  | .assign x => some (evalO C tm x, h)
  | .pick c a b => keep h (opPick (evalO C tm c) (evalO C tm a) (evalO C tm b))
  | .alloc t => opAlloc C h t
  | .box t x => opBox h t (evalO C tm x)
  | .build t parts => keep h (opBuild C t (evalParts C tm parts.toList))
  | .buildSlice t len parts => opBuildSlice C h t len (evalParts C tm parts.toList)
  | .load t a => keep h (opLoad C h t (evalO C tm a))
  | .store t a x => opStore C h t (evalO C tm a) (evalO C tm x)
  | .nilCheck x => keep h (opNilCheck (evalO C tm x))
  | .binOp op t x y _ => keep h (binA C t (isConstO x || isConstO y) op (evalO C tm x) (evalO C tm y))
  | .unOp op _ x => keep h (unA op (evalO C tm x))
  | .convert s d x => opConvert C h s d (evalO C tm x)
  | .makeInterface t x => keep h (opIface C t (evalO C tm x))
  | .makeFunc f a b => keep h (opFunc f (evalL C tm a.toList) (evalL C tm b.toList))
  | .makeSlice t l c => opMakeSlice C h t (evalO C tm l) (evalO C tm c)
  | .slice t x lo hi mx => keep h (opSlice C h t (evalO C tm x) (optO C tm lo) (optO C tm hi) (optO C tm mx))
  | .fieldAddr t x f => keep h (opFieldAddr C t (evalO C tm x) f)
  | .field t x f => keep h (opField C t (evalO C tm x) f)
  | .indexAddr t x i => keep h (opIndexAddr C t (evalO C tm x) (evalO C tm i))
  | .index t x i => keep h (opIndex C t (evalO C tm x) (evalO C tm i))
  | .extract x i => keep h (opExtract (evalO C tm x) i)
  | .typeAssert x _ asserted ok => keep h (opAssert C (evalO C tm x) asserted ok)
  | .range t x => match C.P.underlying t with | some .string => opRange h (evalO C tm x) | _ => none
  | .next it true => opNext h (evalO C tm it)
  | _ => none

/-! ### built-in functions -/
def lenSl (x : AV) : Option Nat := match x with | .str _ => none | x => lenA x
def intO (x : Option Nat) : Option AV := match x with | some n => some (.int .i64 n) | none => none
def biLen (C : Cfg) (t : TypeId) (x : AV) : Option AV :=
  match C.P.underlying t with
  | some (.array n _) => some (.int .i64 n)
  | some (.pointer t) => match C.P.underlying t with | some (.array n _) => some (.int .i64 n) | _ => none
  | some .string => match x with | .str s => some (.int .i64 (lenN s)) | _ => none
  | some (.slice _) => intO (lenSl x)
  | _ => none
def biCap (C : Cfg) (t : TypeId) (x : AV) : Option AV :=
  match C.P.underlying t with
  | some (.slice _) => match x with
    | .slO _ _ _ _ c ex => some (bif ex then .int .i64 c else .dead)
    | .slR _ _ _ c ex => some (bif ex then .int .i64 c else .dead)
    | .slT _ l ex => some (bif ex then .int .i64 l.length else .dead)
    | .nils => some (.int .i64 0)
    | _ => none
  | _ => none
def biCopyTo (h : Heap) (d : AV) (n : Nat) (cs : List AV) : OR :=
  match d with
  | .nils => some (.int .i64 0, h)
  | .slO id off _ _ _ _ => match storeAt h id off cs with | some h => some (.int .i64 n, h) | none => none
  | _ => none
def biCopy (C : Cfg) (h : Heap) (t : TypeId) (d x : AV) : OR :=
  match C.P.underlying t with
  | some (.slice e) => bif !(knownT C e) then none else match lenA d, lenA x with
    | some n, some m => match firstA h (sizeT C e) (Nat.min m n) x with
      | some cs => biCopyTo h d (Nat.min m n) cs
      | none => none
    | _, _ => none
  | _ => none
def biClear (C : Cfg) (h : Heap) (t : TypeId) (x : AV) : OR :=
  match C.P.underlying t with
  | some (.slice e) => match x with
    | .nils => some (.tup [], h)
    | .slO id off _ n _ _ => match zeroCells C e with
      | some z => match storeAt h id off (repCells z n) with | some h => some (.tup [], h) | none => none
      | none => none
    | _ => none
  | _ => none
def biMax (x y : AV) : Option AV := match x, y with | .int k a, .int _ b => some (.int k (bif decide (b > a) then b else a)) | _, _ => none
def biMin (x y : AV) : Option AV := match x, y with | .int k a, .int _ b => some (.int k (bif decide (b < a) then b else a)) | _, _ => none
def biSliceData (x : AV) : Option AV := match x with | .nils => some .nilp | .slO id off _ _ (_ + 1) _ => some (.ptrO id off) | _ => none
/-- all rows of a group are frozen -/
def frzAll (h : Heap) (grp : Nat) : Nat → Heap :=
  Nat.rec h (fun j h => match h.get j with
    | some b => bif Nat.beq b.grp grp && b.kind.isRow then h.set j { b with frz := true, ver := Nat.succ b.ver } else h
    | none => h)
def frzOne (h : Heap) (id : Nat) (b : Blk) : Heap := bif b.forked then frzAll h b.grp h.next else h.set id { b with frz := true, ver := Nat.succ b.ver }
def biString (C : Cfg) (h : Heap) (t : TypeId) (p : AV) (n : Nat) : OR :=
  match p with
  | .nilp => bif Nat.beq n 0 then some (.str [], h) else none
  | .ptrO id off => bif Nat.beq n 0 then some (.str [], h) else bif !(Nat.ble n 4611686018427387904) then none else match cellsAt h id off n, h.get id with
    | some cs, some b => match C.P.underlying t, bytesOf cs with
      | some (.pointer e), some s => bif Nat.beq e b.el && Nat.beq (C.P.cellsOf e) 1 then some (.str s, frzOne h id b) else none
      | _, _ => none
    | _, _ => none
  | _ => none
/-- what is appended is no 'make' -/
def notMade (C : Cfg) (ts : Array TypeId) : Bool :=
  match ts[1]? with
  | some u => match C.P.underlying u with | some (.int _) => false | some _ => true | none => false
  | none => true
def biAppend (C : Cfg) (h : Heap) (ts : Array TypeId) (s x : AV) : OR :=
  bif !(notMade C ts) then none else
  match C.P.underlying (ts.getD 0 0) with
  | some (.slice e) => bif (zeroCells C e).isSome then appendA h e (sizeT C e) (bytesT C e) s x else none
  | _ => none

def builtinA (C : Cfg) (h : Heap) (b : Builtin) (ts : Array TypeId) (args : List AV) : OR :=
  bif Nat.beq ts.size 0 then none else
  match args with
  | [x] => match b with
    | .len => keep h (biLen C (ts.getD 0 0) x)
    | .cap => keep h (biCap C (ts.getD 0 0) x)
    | .clear => biClear C h (ts.getD 0 0) x
    | .unsafeSliceData => keep h (biSliceData x)
    | _ => none
  | [x, y] => match b with
    | .append => biAppend C h ts x y
    | .copy => biCopy C h (ts.getD 0 0) x y
    | .max => keep h (biMax x y)
    | .min => keep h (biMin x y)
    | .unsafeString => match natOf y with | some n => biString C h (ts.getD 0 0) x n | none => none
    | _ => none
  | _ => none

/-! ### functions without a body -/
def findByte (c : Int) : List UInt8 → Int → Int
  | [], _ => -1
  | b :: bs, i => bif (b.toNat : Int) == c then i else findByte c bs (i + 1)
def cmpBytes (a b : List UInt8) : Int := bif beqBytes a b then 0 else bif Op.bytesLess a b then -1 else 1
def overlapA (h : Heap) (x y : AV) : Option AV :=
  match x, y with
  | .slO a _ _ n _ _, .slO b _ _ m _ _ => bif Nat.beq n 0 || Nat.beq m 0 then some (.bool false) else match h.get a, h.get b with | some p, some q => bif Nat.beq p.grp q.grp then none else some (.bool false) | _, _ => none
  | _, _ => none

def externA (h : Heap) (e : Ext) (args : List AV) : OR :=
  match e with
  | .same => match args with | [x] => some (x, h) | _ => none
  | .cmpString => match args with | [.str a, .str b] => some (.int .i64 (cmpBytes a b), h) | _ => none
  | .indexByteString => match args with | [.str a, .int _ c] => some (.int .i64 (findByte c a 0), h) | _ => none
  | .overlaps => match args with | [x, y] => keep h (overlapA h x y) | _ => none

/-! ### control -/
def guardTmp (ops : Array Oper) (j : Nat) : Option Tmp := match ops[j]? with | some o => o.dst | none => none
/-- is the operation to be done? (not, where the guard is no bool at all) -/
def wantedA (ops : Array Oper) (tm : T AV) (o : Oper) : Option Bool :=
  match o.guard with
  | none => some true
  | some (j, want) => match guardTmp ops j with
    | some t => match tm.get t with | some (.bool b) => some (b == want) | some (.tup _) => some false | _ => none
    | none => some false

def St.set (s : St) (d : Option Tmp) (v : AV) (h : Heap) : St :=
  match d with
  | some d => bif Nat.ble (Nat.succ d) s.n then { n := s.n, tm := s.tm.put d v, h, ds := s.ds, pn := s.pn } else { n := s.n, tm := s.tm, h, ds := s.ds, pn := s.pn }
  | none => { n := s.n, tm := s.tm, h, ds := s.ds, pn := s.pn }
def St.heap (s : St) (h : Heap) : St := { n := s.n, tm := s.tm, h, ds := s.ds, pn := s.pn }

def tmOf : Nat → List AV → T AV → T AV
  | _, [], t => t
  | i, a :: as, t => tmOf (Nat.succ i) as (t.put i a)

/-- a tree with a place for each of n temporaries, nothing known -/
def fullT (f : Nat) : Nat → T AV :=
  Nat.rec (fun _ => .leaf) (fun _ ih n => bif Nat.beq n 0 then .leaf else .node (ih (Nat.div n 2)) none (ih (Nat.div (Nat.sub n 1) 2))) f

def resultsA (C : Cfg) (h : Heap) (tm : T AV) : List ResultVar → Option (List AV)
  | [] => some []
  | r :: rest =>
    match (match r with
      | .tmp t => tm.get t
      | .cell a t => match tm.get a with
        | some p => opLoad C h t p
        | none => none), resultsA C h tm rest with
    | some v, some vs => some (v :: vs)
    | _, _ => none

/-- a function value's function (or the round of a loop) and arguments -/
def calleeA (f : AV) (args : List AV) : Option ((FuncId ⊕ Nat) × List AV) :=
  match f with
  | .fn (.func g) first captured => some (.inl g, first ++ args ++ captured)
  | .fn (.yield id) [] [] => some (.inr id, args)
  | _ => none

/-- what the interpreter does at a smaller depth -/
structure Fns where
  call : FuncId → List AV → Heap → Option AV → Option Res
  exec : Code → St → Option Out
  yield : Nat → List AV → Heap → Option Res

def Fns.none : Fns := { call := fun _ _ _ _ => .none, exec := fun _ _ => .none, yield := fun _ _ _ => .none }

def goOn (s : St) (dst : Option Tmp) (r : Option Res) : Option Out :=
  match r with
  | some (.val v h _) => some (.nrm (s.set dst v h))
  | some (.pan v h _) => some (.pan v (s.heap h))
  | none => none

def putO (s : St) (dst : Option Tmp) (r : OR) : Option Out :=
  match r with
  | some (v, h) => some (.nrm (s.set dst v h))
  | none => none

def recoverA (s : St) (dst : Option Tmp) : Option Out :=
  match s.pn with
  | some (.tup _) => none
  | some v => some (.nrm ({ n := s.n, tm := s.tm, h := s.h, ds := s.ds, pn := none : St }.set dst v s.h))
  | none => some (.nrm (s.set dst .nili s.h))

/-- a panic, by an interface value that is not nil -/
def panO (v : AV) (s : St) : Option Out := match v with | .ifc t x => some (.pan (.ifc t x) s) | _ => none

def callOp (C : Cfg) (F : Fns) (c : Call) (s : St) (dst : Option Tmp) : Option Out :=
  match c.callee with
  | .builtin b => match b with
    | .recover => recoverA s dst
    | .panic => match evalL C s.tm c.args.toList with | [v] => panO v s | _ => none
    | b => putO s dst (builtinA C s.h b c.argTypes (evalL C s.tm c.args.toList))
  | .value f => match calleeA (evalO C s.tm f) (evalL C s.tm c.args.toList) with
    | some (.inl g, args) => goOn s dst (F.call g args s.h none)
    | some (.inr id, args) => goOn s dst (F.yield id args s.h)
    | none => none
  | .invoke _ _ => none

/-- has the function a body? -/
def bodied (C : Cfg) (g : FuncId) : Bool := match C.P.funcs[g]? with | some fn => fn.body.isSome | none => false
def deferOp (C : Cfg) (c : Call) (s : St) (dst : Option Tmp) : Option Out :=
  match s.pn with
  | some (.tup _) => none
  | _ => match c.callee with
    | .value f => match calleeA (evalO C s.tm f) (evalL C s.tm c.args.toList) with
      | some (.inl g, args) => bif bodied C g then some (.nrm ({ n := s.n, tm := s.tm, h := s.h, ds := { f := g, args } :: s.ds, pn := s.pn : St }.set dst (.tup []) s.h)) else none
      | _ => none
    | _ => none

def operA (C : Cfg) (F : Fns) (o : Oper) (s : St) : Option Out :=
  match o.op with
  | .call c => callOp C F c s o.dst
  | .defer c => deferOp C c s o.dst
  | .panic x => panO (evalO C s.tm x) s
  | op => putO s o.dst (opA C s.tm s.h op)

def opsA (C : Cfg) (F : Fns) (ops : Array Oper) (l : List Oper) : St → Option Out :=
  List.rec (fun s => some (.nrm s)) (fun o _ ih s =>
    match wantedA ops s.tm o with
    | some true => match operA C F o s with
      | some (.nrm s) => ih s
      | r => r
    | some false => ih (s.set o.dst (.tup []) s.h)
    | none => none) l

/-! ### regions whose order is open -/
/-- q: touches no memory. l: reads. a: makes one block. m: all else that may be done there. x: not in such a region. -/
inductive Cls where
  | q | l | a | m | x
  deriving DecidableEq, Inhabited

def clsB (b : Builtin) : Cls :=
  match b with
  | .len | .cap | .max | .min | .unsafeSliceData => .q
  | .append | .copy | .clear | .unsafeString => .m
  | _ => .x

def cls (C : Cfg) (o : Op) : Cls :=
  match o with
  | .move _ | .assign _ | .pick .. | .build .. | .nilCheck _ | .binOp .. | .unOp .. | .makeInterface .. | .makeFunc .. | .slice .. | .fieldAddr .. | .field .. | .indexAddr .. | .index .. | .extract .. | .typeAssert .. => .q
  | .load .. => .l
  | .alloc _ | .box .. | .buildSlice .. | .makeSlice .. => .a
  | .convert _ d _ => match C.P.underlying d with | some (.slice _) => .a | some .string => .l | some (.int _) => .q | _ => .x
  | .store .. | .next .. => .m
  | .call c => match c.callee with | .builtin b => clsB b | .value _ => .m | .invoke .. => .x
  | _ => .x

/-- which block a reading operation reads -/
def readId (C : Cfg) (tm : T AV) (o : Op) : Option Nat :=
  match o with
  | .load _ a => match evalO C tm a with | .ptrO id _ => some id | _ => none
  | .convert _ _ x => match evalO C tm x with | .slO id _ _ _ _ _ => some id | _ => none
  | _ => none

def tmpsOf : List Operand → List Tmp
  | [] => []
  | .tmp t :: l => t :: tmpsOf l
  | _ :: l => tmpsOf l
/-- the temporaries that an operation names -/
def namesOf (ops : Array Oper) (o : Oper) : List Tmp :=
  tmpsOf o.op.operands.toList ++ (match o.guard with | some (j, _) => (guardTmp ops j).toList | none => []) ++ o.dst.toList

def edgesBack (j : Nat) (o : Oper) : Bool := o.after.toList.all fun e => !Region.binds .any e || Nat.ble (Nat.succ e.on) j
/-- the operations that must stand before number j, a set as a number -/
def predsFrom (acc : List Nat) : List Edge → Nat
  | [] => 0
  | e :: es => bif Region.binds .any e then (2 ^ e.on ||| (nth acc e.on).getD 0) ||| predsFrom acc es else predsFrom acc es
def predsOf : List Oper → List Nat → List Nat
  | [], acc => acc
  | o :: os, acc => predsOf os (acc ++ [predsFrom acc o.after.toList])

def allIdx {α : Type} (f : Nat → α → Bool) : Nat → List α → Bool
  | _, [] => true
  | j, o :: os => f j o && allIdx f (Nat.succ j) os

def isPred (ps : List Nat) (i j : Nat) : Bool := ((nth ps j).getD 0).testBit i

/-- i < j and both name a temporary that one of them writes: then i stands before j -/
def tmpsOrdered (ops : Array Oper) (ps : List Nat) (l : List Oper) : Bool :=
  allIdx (fun j o => allIdx (fun i p => Nat.ble j i || isPred ps i j ||
    (match p.dst with | some d => !(namesOf ops o).contains d | none => true) && (match o.dst with | some d => !(namesOf ops p).contains d | none => true)) 0 l) 0 l

def msOrdered (C : Cfg) (ps : List Nat) (l : List Oper) : Bool :=
  allIdx (fun j o => !(cls C o.op == .m) || allIdx (fun i p => Nat.ble j i || isPred ps i j || !(cls C p.op == .m)) 0 l) 0 l

/-- i < j, i makes a block, j changes memory: then i stands before j -/
def amOrdered (C : Cfg) (ps : List Nat) (l : List Oper) : Bool :=
  allIdx (fun j o => !(cls C o.op == .m) || allIdx (fun i p => Nat.ble j i || isPred ps i j || !(cls C p.op == .a)) 0 l) 0 l
def isEff (C : Cfg) (o : Oper) : Bool := cls C o.op == .a || cls C o.op == .m
/-- x < a, a makes a block, x makes one or changes memory: then x stands before a, or before all behind which a must stand -/
def depOrdered (C : Cfg) (ps : List Nat) (l : List Oper) : Bool :=
  allIdx (fun a o => !(cls C o.op == .a) || allIdx (fun x p => Nat.ble a x || isPred ps x a || !(isEff C p) || allIdx (fun k _ => !(isPred ps a k) || isPred ps x k) 0 l) 0 l) 0 l

def drawOk (C : Cfg) (ops : Array Oper) : Bool :=
  allIdx edgesBack 0 ops.toList && (tmpsOrdered ops (predsOf ops.toList []) ops.toList && (msOrdered C (predsOf ops.toList []) ops.toList && (amOrdered C (predsOf ops.toList []) ops.toList && (depOrdered C (predsOf ops.toList []) ops.toList && ops.toList.all fun o => !(cls C o.op == .x)))))

/-- how a region is being gone through: the state, the blocks made here so far (who, where), the reads (who, which block), the changes of memory (who; before and behind it) -/
structure Dr where
  s : St
  made : List (Nat × Nat)
  reads : List (Nat × Nat)
  ms : List (Nat × Heap × Heap)
  deriving Inhabited

/-- one operation of such a region; a panic ends it -/
def drawStep (C : Cfg) (F : Fns) (j : Nat) (o : Oper) (d : Dr) : Option (Dr ⊕ AV × Heap) :=
  match cls C o.op with
  | .q => match operA C F o (d.s.heap Heap.empty) with
    | some (.nrm s) => some (.inl { s := s.heap d.s.h, made := d.made, reads := d.reads, ms := d.ms })
    | _ => none
  | .l => match operA C F o d.s with
    | some (.nrm s) => some (.inl { s, made := d.made, reads := match readId C d.s.tm o.op with | some id => (j, id) :: d.reads | none => d.reads, ms := d.ms })
    | _ => none
  | .a => match operA C F o d.s with
    | some (.nrm s) => some (.inl { s, made := (j, d.s.h.next) :: d.made, reads := d.reads, ms := d.ms })
    | _ => none
  | .m => match operA C F o d.s with
    | some (.nrm s) => some (.inl { s, made := d.made, reads := d.reads, ms := (j, d.s.h, s.h) :: d.ms })
    | some (.pan v s) => some (.inr (v, s.h))
    | _ => none
  | .x => none

/-- temporaries of which nothing is known -/
def forget : List Oper → St → St
  | [], s => s
  | o :: os, s => forget os (s.set o.dst .dead s.h)

def drawOps (C : Cfg) (F : Fns) (ops : Array Oper) (ps : List Nat) : Nat → List Oper → Dr → Option (Dr ⊕ (AV × Heap) × Dr)
  | _, [], d => some (.inl d)
  | j, o :: os, d =>
    match wantedA ops d.s.tm o with
    | some true => match drawStep C F j o d with
      | some (.inl d) => drawOps C F ops ps (Nat.succ j) os d
      | some (.inr (v, h)) => bif allIdx (fun i _ => isPred ps j (Nat.add (Nat.succ j) i)) 0 os then some (.inr ((v, h), d)) else none
      | none => none
    | none => none
    | some false => drawOps C F ops ps (Nat.succ j) os { s := d.s.set o.dst (.tup []) d.s.h, made := d.made, reads := d.reads, ms := d.ms }

/-! ### are two values the same? -/
def beqL (f : AV → AV → Bool) (l : List AV) : List AV → Bool :=
  List.rec (fun k => List.casesOn k true (fun _ _ => false)) (fun c _ ih k => List.casesOn k false (fun d k => f c d && ih k)) l

def beqAV : Nat → AV → AV → Bool :=
  Nat.rec (fun _ _ => false) (fun _ ih x y => match x with
    | .dead => match y with | .dead => true | _ => false
    | .bool a => match y with | .bool b => a == b | _ => false
    | .int k a => match y with | .int k' b => decide (k = k') && a == b | _ => false
    | .str a => match y with | .str b => beqBytes a b | _ => false
    | .nilp => match y with | .nilp => true | _ => false
    | .ptrO i a => match y with | .ptrO j b => Nat.beq i j && Nat.beq a b | _ => false
    | .ptrR cs a => match y with | .ptrR ds b => Nat.beq a b && beqL ih cs ds | _ => false
    | .nils => match y with | .nils => true | _ => false
    | .slO i a b c d e => match y with | .slO i' a' b' c' d' e' => Nat.beq i i' && (Nat.beq a a' && (Nat.beq b b' && (Nat.beq c c' && (Nat.beq d d' && e == e')))) | _ => false
    | .slR cs a b c e => match y with | .slR ds a' b' c' e' => Nat.beq a a' && (Nat.beq b b' && (Nat.beq c c' && (e == e' && beqL ih cs ds))) | _ => false
    | .slT t l e => match y with | .slT u k e' => sameT t l u k && e == e' | _ => false
    | .fn f a b => match f, y with | .func f, .fn (.func g) c d => Nat.beq f g && (beqL ih a c && beqL ih b d) | _, _ => false
    | .nilf => match y with | .nilf => true | _ => false
    | .ifc t a => match y with | .ifc u b => Nat.beq t u && ih a b | _ => false
    | .nili => match y with | .nili => true | _ => false
    | .agg cs => match y with | .agg ds => beqL ih cs ds | _ => false
    | .tup cs => match y with | .tup ds => beqL ih cs ds | _ => false)

def beqBlk (b c : Blk) : Bool :=
  b.kind.isRow && c.kind.isRow && (Nat.beq b.grp c.grp && (Nat.beq b.base c.base && (b.forked == c.forked && (b.frz == c.frz && (Nat.beq b.ver c.ver && (Nat.beq b.el c.el && (b.whole == c.whole && beqL (beqAV 64) b.cells c.cells)))))))

def sameBlk (h h' : Heap) (id : Nat) : Bool :=
  match h.get id, h'.get id with
  | some b, some c => beqBlk b c
  | _, _ => false
/-- does what is read not hang on the order: each change of memory stands before or behind the read, or leaves that block as it was; and who made the block stands before -/
def readOk (ps : List Nat) (ms : List (Nat × Heap × Heap)) (made : List (Nat × Nat)) (r : Nat × Nat) : Bool :=
  (ms.all fun m => isPred ps m.1 r.1 || isPred ps r.1 m.1 || sameBlk m.2.1 m.2.2 r.2) && (made.all fun m => !Nat.beq m.2 r.2 || isPred ps m.1 r.1)

def drawA (C : Cfg) (F : Fns) (ops : Array Oper) (s : St) : Option Out :=
  bif drawOk C ops then
    match drawOps C F ops (predsOf ops.toList []) 0 ops.toList { s, made := [], reads := [], ms := [] } with
    | some (.inl d) => bif d.reads.all (readOk (predsOf ops.toList []) d.ms d.made) then some (.nrm d.s) else none
    | some (.inr ((v, h), d)) => bif d.reads.all (readOk (predsOf ops.toList []) d.ms d.made) then some (.pan v ((forget ops.toList s).heap h)) else none
    | none => none
  else none

def iterA (f : St → Option Out) (n : Nat) : St → Option Out :=
  Nat.rec (fun _ => none) (fun _ ih s => match f s with | some (.nrm s) => ih s | r => r) n

def loopBlk (id n : Nat) (tm : T AV) (ps : Array Tmp) (a b : Code) (j : Option Code) (st : LoopState) : Blk :=
  { cells := [], grp := id, base := 0, forked := false, frz := true, ver := 0, el := 0, whole := false, kind := .loop n tm ps a b j st }

def rangeEnd (F : Fns) (id : Nat) (s : St) (h : Heap) : Option Out :=
  match h.get id with
  | none => none
  | some b =>
    match b.kind with
    | .loop n tm ps x y jump st =>
      bif b.forked then none else match st with
      | .busy => none
      | _ => match jump with
        | some j => F.exec j (s.heap (h.set id (loopBlk id n tm ps x y jump .exhausted)))
        | none => some (.nrm (s.heap (h.set id (loopBlk id n tm ps x y jump .exhausted))))
    | _ => none

/-- in a loop's round? -/
def inRound (s : St) : Bool := match s.pn with | some (.tup _) => true | _ => false
def rangeA (C : Cfg) (F : Fns) (f : Operand) (ps : Array Tmp) (a b : Code) (s : St) : Option Out :=
  bif inRound s then none else
  match calleeA (evalO C s.tm f) [.fn (.yield s.h.next) [] []] with
  | some (.inl g, args) =>
    match F.call g args (s.h.add (loopBlk s.h.next s.n s.tm ps a b none .ready)) none with
    | some (.val _ h _) => rangeEnd F s.h.next s h
    | some (.pan v h _) => some (.pan v (s.heap h))
    | none => none
  | _ => none

def blockEnd (id : Nat) (r : Option Out) : Option Out :=
  match r with
  | some (.ext j s) => bif Nat.beq j id then some (.nrm s) else some (.ext j s)
  | r => r

/-! ### what a loop's round leaves behind -/
def maskL (l : List Nat) : Nat := List.rec 0 (fun a _ ih => Nat.lor (Nat.pow 2 a) ih) l
def butN (x y : Nat) : Nat := Nat.xor x (Nat.land x y)
/-- of code: what is read before it is written, what is written on every way, what may be on the ways to its end, what may be at all; does it come to an end; what it leaves by -/
structure LV where
  e : Nat
  w : Nat
  m : Nat
  x : Nat
  n : Bool
  ex : Nat
def bitO (d : Option Nat) : Nat := match d with | some t => Nat.pow 2 t | none => 0
def grdO (ops : Array Oper) (o : Oper) : Nat := match o.guard with | some (j, _) => bitO (guardTmp ops j) | none => 0
def lvOp (ops : Array Oper) (o : Oper) (a : LV) : LV :=
  { e := Nat.lor a.e (butN (Nat.lor (maskL (tmpsOf o.op.operands.toList)) (grdO ops o)) a.w), w := Nat.lor a.w (bitO o.dst), m := 0, x := 0, n := true, ex := 0 }
def lvOps (ops : Array Oper) (l : List Oper) : LV → LV := List.rec (fun a => a) (fun o _ ih a => ih (lvOp ops o a)) l
def lvReg (a : LV) : LV := { e := a.e, w := a.w, m := a.w, x := a.w, n := true, ex := 0 }
def lvSeq (a b : LV) : LV := { e := Nat.lor a.e (butN b.e a.w), w := Nat.lor a.w b.w, m := bif a.n && b.n then Nat.lor a.m b.m else 0, x := Nat.lor a.x b.x, n := a.n && b.n, ex := Nat.lor a.ex b.ex }
def lvOr (r : Nat) (a b : LV) : LV :=
  { e := Nat.lor r (Nat.lor a.e b.e), w := bif a.n then (bif b.n then Nat.land a.w b.w else a.w) else b.w, m := Nat.lor (bif a.n then a.m else 0) (bif b.n then b.m else 0), x := Nat.lor a.x b.x, n := a.n || b.n, ex := Nat.lor a.ex b.ex }
def lvBlk (id : Nat) (a : LV) : LV := bif Nat.testBit a.ex id then { e := a.e, w := 0, m := a.x, x := a.x, n := true, ex := a.ex } else a
def lvC (c : Code) : LV :=
  Code.rec
    { e := 0, w := 0, m := 0, x := 0, n := true, ex := 0 }
    (fun _ ops _ => lvReg (lvOps ops ops.toList { e := 0, w := 0, m := 0, x := 0, n := true, ex := 0 }))
    (fun _ _ iha ihb => lvSeq iha ihb)
    (fun x _ _ iha ihb => lvOr (maskL (tmpsOf [x])) iha ihb)
    (fun id _ ih => lvBlk id ih)
    (fun _ ih => { e := ih.e, w := 0, m := 0, x := ih.x, n := false, ex := ih.ex })
    (fun _ _ _ _ iha ihb => { e := Nat.pow 2 4000 - 1, w := 0, m := 0, x := Nat.lor iha.x ihb.x, n := true, ex := Nat.lor iha.ex ihb.ex })
    (fun id => { e := 0, w := 0, m := 0, x := 0, n := false, ex := Nat.pow 2 id })
    (fun _ ih => ih)
    (fun _ => { e := 0, w := 0, m := 0, x := 0, n := true, ex := 0 })
    (fun _ => { e := Nat.pow 2 4000 - 1, w := 0, m := 0, x := 0, n := true, ex := 0 })
    { e := 0, w := 0, m := 0, x := 0, n := false, ex := 0 }
    (fun _ => { e := 0, w := 0, m := 0, x := 0, n := false, ex := 0 })
    c
/-- what a round writes on the way to its end, and what the next does not read first -/
def lvLoop (c : Code) : Nat := butN (lvC c).m (lvC c).e
/-- of those nothing is known -/
def forgetT (A n : Nat) (tm : T AV) : T AV := Nat.rec tm (fun j t => bif Nat.testBit A j then t.put j .dead else t) n
/-- what is guarded is not used behind its region -/
def grdM (l : List Oper) : Nat := List.rec 0 (fun o _ ih => match o.guard with | some _ => Nat.lor (bitO o.dst) ih | none => ih) l
def forgetR (tr : Bool) (ops : Array Oper) (s : St) : St := bif tr && !(Nat.beq (grdM ops.toList) 0) then { n := s.n, tm := forgetT (grdM ops.toList) s.n s.tm, h := s.h, ds := s.ds, pn := s.pn } else s
def outR (tr : Bool) (ops : Array Oper) (o : Out) : Out := match o with | .nrm s => .nrm (forgetR tr ops s) | o => o
def regO (tr : Bool) (ops : Array Oper) (r : Option Out) : Option Out := match r with | some o => some (outR tr ops o) | none => none
def notYield (f : Fn) : Bool := match f with | .yield _ => false | _ => true
/-- does a value bear old blocks alone? -/
def lowA (n0 : Nat) : Nat → AV → Bool :=
  Nat.rec (fun _ => false) (fun _ ih v => match v with
    | .ptrO id _ => Nat.ble (Nat.succ id) n0
    | .slO id _ _ _ _ _ => Nat.ble (Nat.succ id) n0
    | .agg cs => List.rec true (fun c _ r => ih c && r) cs
    | .tup cs => List.rec true (fun c _ r => ih c && r) cs
    | .fn f a b => notYield f && (List.rec true (fun c _ r => ih c && r) a && List.rec true (fun c _ r => ih c && r) b)
    | .ifc _ v => ih v
    | _ => true)
def lowL (n0 : Nat) (l : List AV) : Bool := List.rec true (fun c _ r => lowA n0 16 c && r) l
def lowO (n0 : Nat) (v : Option AV) : Bool := match v with | some a => lowA n0 16 a | none => true
def lowT (n0 : Nat) (t : T AV) : Bool := T.rec true (fun _ v _ ihl ihr => lowO n0 v && (ihl && ihr)) t
def lowB (n0 : Nat) (h : Heap) : Bool := Nat.rec true (fun j ih => (match h.get j with | some b => lowL n0 b.cells && (match b.kind with | .loop .. => false | _ => true) | none => true) && ih) n0
def cutH (n0 : Nat) (h : Heap) : Heap := { next := n0, m := Nat.rec T.leaf (fun j t => match h.get j with | some b => t.put j b | none => t) n0 }
def trimO (n0 : Nat) (s : St) : Bool := lowT n0 s.tm && (lowB n0 s.h && (s.ds.isEmpty && s.pn.isNone))
def trim1 (n0 : Nat) (s : St) : St := { n := s.n, tm := s.tm, h := bif Nat.beq s.h.next n0 then s.h else bif trimO n0 s then cutH n0 s.h else s.h, ds := s.ds, pn := s.pn }
def trimS (n0 A : Nat) (s : St) : St := trim1 n0 { n := s.n, tm := forgetT A s.n s.tm, h := s.h, ds := s.ds, pn := s.pn }
def trimO' (A : Nat) (s : St) (r : Option Out) : Option Out := match r with | some (.nrm s') => some (.nrm (trimS s.h.next A s')) | r => r
def loopA (tr : Bool) (A : Nat) (f : St → Option Out) (n : Nat) (s : St) : Option Out := bif tr then iterA (fun s => trimO' A s (f s)) n (trimS s.h.next A s) else iterA f n s

def execA (C : Cfg) (F : Fns) (c : Code) : St → Option Out :=
  Code.rec
    (fun s => some (.nrm s))
    (fun _ ops dr s => bif dr then drawA C F ops s else regO C.trim ops (opsA C F ops ops.toList s))
    (fun _ _ iha ihb s => match iha s with | some (.nrm s) => ihb s | r => r)
    (fun x _ _ iha ihb s => match evalO C s.tm x with | .bool t => (bif t then iha s else ihb s) | _ => none)
    (fun id _ ih s => blockEnd id (ih s))
    (fun c ih s => loopA C.trim (lvLoop c) ih C.loops s)
    (fun f ps a b _ _ s => rangeA C F f ps a b s)
    (fun id s => some (.ext id s))
    (fun _ _ _ => none)
    (fun _ s => some (.nrm s))
    (fun l s => some (.gto l s))
    (fun s => some (.ret s))
    (fun _ _ => none)
    c

/-- the deferred calls, then the results -/
def leaveA (C : Cfg) (F : Fns) (fn : Func) (tm : T AV) (pn : Option AV) (ds : List ADef) : Heap → Option AV → Option Res :=
  List.rec
    (fun h p => match p with
      | some v => some (.pan v h pn)
      | none => match resultsA C h tm fn.results.toList with
        | some [v] => some (.val v h pn)
        | some vs => some (.val (.tup vs) h pn)
        | none => none)
    (fun d _ ih h p => match (bif C.nodef d.f then none else F.call d.f d.args h p) with
      | some (.val _ h p') => ih h p'
      | _ => none) ds

def leaveO (C : Cfg) (F : Fns) (fn : Func) (r : Option Out) : Option Res :=
  match r with
  | some (.nrm s) => leaveA C F fn s.tm s.pn s.ds s.h none
  | some (.ret s) => leaveA C F fn s.tm s.pn s.ds s.h none
  | some (.pan v s) => leaveA C F fn s.tm s.pn s.ds s.h (some v)
  | _ => none

/-! ### calls over a heap of their own -/
def noOwnL (f : AV → Bool) (l : List AV) : Bool := List.rec true (fun c _ ih => f c && ih) l
def noOwn : Nat → AV → Bool :=
  Nat.rec (fun _ => false) (fun _ ih v => match v with
    | .ptrO _ _ => false
    | .slO _ _ _ _ _ _ => false
    | .agg cs => noOwnL ih cs
    | .tup cs => noOwnL ih cs
    | .fn f a b => (match f with | .yield _ => false | _ => true) && (noOwnL ih a && noOwnL ih b)
    | .ifc _ v => ih v
    | _ => true)

def freezeL (f : AV → Option AV) (l : List AV) : Option (List AV) :=
  List.rec (some []) (fun c _ ih => match f c, ih with | some a, some as => some (a :: as) | _, _ => none) l

/-- a value that leads into the heap, as one that bears the cells that it leads to -/
def freezeA (h : Heap) : Nat → AV → Option AV :=
  Nat.rec (fun _ => none) (fun _ ih v => match v with
    | .ptrO id off => match h.get id with
      | some b => bif b.kind.isRow then (match freezeL ih b.cells with | some cs => some (.ptrR cs off) | none => none) else none
      | none => none
    | .slO id off es len _ _ => match cellsAt h id off (Nat.mul len es) with
      | some cs => match freezeL ih cs with | some cs => some (.slR cs 0 len len false) | none => none
      | none => none
    | .agg cs => match freezeL ih cs with | some cs => some (.agg cs) | none => none
    | .tup cs => match freezeL ih cs with | some cs => some (.tup cs) | none => none
    | .fn f a b => match f with
      | .yield _ => none
      | f => match freezeL ih a, freezeL ih b with | some a, some b => some (.fn f a b) | _, _ => none
    | .ifc t v => match ih v with | some v => some (.ifc t v) | none => none
    | v => some v)

def deep : Nat := 64

def pureRes (h : Heap) (r : Option Res) : Option Res :=
  match r with
  | some (.val v h' _) => match freezeA h' deep v with | some v => some (.val v h none) | none => none
  | some (.pan v h' _) => match freezeA h' deep v with | some v => some (.pan v h none) | none => none
  | none => none

def callBody (C : Cfg) (F : Fns) (f : FuncId) (args : List AV) (h : Heap) (pn : Option AV) : Option Res :=
  match C.P.funcs[f]? with
  | none => none
  | some fn =>
    match fn.body with
    | none => match C.ext f with
      | none => none
      | some e => match externA h e args with | some (v, h) => some (.val v h pn) | none => none
    | some c => bif Nat.ble (lenN args) fn.ntmps then leaveO C F fn (execA C F c { n := fn.ntmps, tm := tmOf 0 args (fullT 12 fn.ntmps), h, ds := [], pn }) else none

/-- may the block be handed to a call that has no other? -/
def loneBlk (b : Blk) : Bool := b.kind.isRow && (!b.forked && (!b.frz && noOwnL (noOwn deep) b.cells))
def heap1 (b : Blk) : Heap := { next := 1, m := .node .leaf (some { b with grp := 0, base := 0, ver := 0 }) .leaf }
/-- a block of which nothing is known any more -/
def holeB (b : Blk) : Blk := { b with cells := [], kind := .hole }
def own1Res (h : Heap) (i : Nat) (b : Blk) (r : Option Res) : Option Res :=
  match r with
  | some (.val v h' _) => match h'.get 0 with
    | some c => bif loneBlk c then (match freezeA (h'.set 0 (holeB c)) deep v with
      | some v => some (.val v (h.set i { c with grp := b.grp, base := b.base, ver := Nat.succ b.ver }) none)
      | none => none) else none
    | none => none
  | _ => none
/-- a pointer or slice into a block: the block, and the same into block 0 -/
def lead1 (x : AV) : Option (Nat × AV) :=
  match x with
  | .ptrO i off => some (i, .ptrO 0 off)
  | .slO i off es len cap ex => some (i, .slO 0 off es len cap ex)
  | _ => none
def own1A (C : Cfg) (F : Fns) (f : FuncId) (args : List AV) (h : Heap) : Option Res :=
  match args with
  | [] => none
  | x :: rest => match lead1 x with
    | some (i, y) => match h.get i with
      | some b => bif loneBlk b && noOwnL (noOwn deep) rest then own1Res h i b (callBody C F f (y :: rest) (heap1 b) none) else none
      | none => none
    | none => none

/-- values that lead nowhere -/
def scal0 (v : AV) : Bool := match v with | .bool _ => true | .int _ _ => true | .str _ => true | .nilp => true | .nils => true | _ => false
def scalL (f : AV → Bool) (l : List AV) : Bool := List.rec true (fun c _ ih => f c && ih) l
def scal1 (v : AV) : Bool := match v with | .agg cs => scalL scal0 cs | v => scal0 v
def scalA (v : AV) : Bool := match v with | .tup vs => scalL scal1 vs | v => scal1 v
def frzRes (C : Cfg) (F : Fns) (f : FuncId) (args : List AV) (h : Heap) : Option Res :=
  match freezeL (freezeA h deep) args with
  | none => none
  | some args' => match C.spec f args' with
    | some v => bif scalA v then some (.val v h none) else none
    | none => match callBody C F f args' Heap.empty none with
      | some (.val v _ _) => bif scalA v then some (.val v h none) else none
      | _ => none
def callA0 (C : Cfg) (F : Fns) (f : FuncId) (args : List AV) (h : Heap) (pn : Option AV) : Option Res :=
  bif C.own1 f && pn.isNone then own1A C F f args h else
  bif C.frz f && (pn.isNone && !(noOwnL (noOwn deep) args)) then frzRes C F f args h else
  bif C.pure f && (pn.isNone && noOwnL (noOwn deep) args) then pureRes h (callBody C F f args Heap.empty none) else callBody C F f args h pn

def callA (C : Cfg) (F : Fns) (f : FuncId) (args : List AV) (h : Heap) (pn : Option AV) : Option Res :=
  match pn with
  | some _ => callA0 C F f args h pn
  | none => match C.spec f args with
    | some v => some (.val v h none)
    | none => callA0 C F f args h none

def putAll : List Tmp → List AV → T AV → T AV
  | p :: ps, v :: vs, t => putAll ps vs (t.put p v)
  | _, _, t => t

def roundEnd (id : Nat) (j : Option Code) (s : St) : Option Res :=
  match s.pn with
  | some (.tup _) => match s.h.get id with
    | some bl => match bl.kind with
      | .loop n tm ps a b _ _ => bif bl.forked then none else some (.val (.bool j.isNone) (s.h.set id (loopBlk id n tm ps a b j (bif j.isNone then .ready else .done))) none)
      | _ => none
    | none => none
  | _ => none

/-- the round begins: the loop is busy -/
def beginA (id : Nat) (h : Heap) : Option Heap :=
  match h.get id with
  | none => none
  | some bl =>
    match bl.kind with
    | .loop n tm ps a b jump .ready => bif bl.forked then none else some (h.set id (loopBlk id n tm ps a b jump .busy))
    | _ => none
def bodyEnd (id : Nat) (r : Option Out) : Option Res :=
  match r with
  | some (.nrm s) => roundEnd id none s
  | some (.ext i s) => roundEnd id (some (.exit i)) s
  | some (.gto l s) => roundEnd id (some (.goto l)) s
  | some (.ret s) => roundEnd id (some .ret) s
  | some (.pan _ _) => none
  | none => none
/-- a round of a loop over a function: the body, with what is handed to it -/
def yieldA (C : Cfg) (F : Fns) (id : Nat) (args : List AV) (h : Heap) : Option Res :=
  match h.get id with
  | none => none
  | some bl =>
    match bl.kind with
    | .loop n tm ps a b _ .ready =>
      bif !(Nat.beq (lenN args) ps.size && ps.toList.all (fun p => Nat.ble (Nat.succ p) n)) then none else
      match execA C F a { n, tm := putAll ps.toList args tm, h, ds := [], pn := some (.tup []) } with
      | some (.nrm s) => match beginA id s.h with
        | some h => bodyEnd id (execA C F b (s.heap h))
        | none => none
      | _ => none
    | _ => none

def stepF (C : Cfg) (F : Fns) : Fns := { call := callA C F, exec := execA C F, yield := yieldA C F }

def fns (C : Cfg) (n : Nat) : Fns := Nat.rec Fns.none (fun _ F => stepF C F) n

def run (C : Cfg) (n : Nat) (f : FuncId) (args : List AV) : Option Res := (fns C n).call f args Heap.empty none
end
end Go.Abs
namespace Go.Abs
noncomputable section
open Go
theorem beq_false {a b : Nat} (h : a ≠ b) : Nat.beq a b = false := by
  cases hb : Nat.beq a b
  · rfl
  · exact absurd (Nat.eq_of_beq_eq_true hb) h
theorem beq_true {a b : Nat} (h : a = b) : Nat.beq a b = true := by subst h; exact Nat.beq_refl a
theorem of_beq {a b : Nat} (h : Nat.beq a b = true) : a = b := Nat.eq_of_beq_eq_true h
theorem of_beq_false {a b : Nat} (h : Nat.beq a b = false) : a ≠ b := Nat.ne_of_beq_eq_false h

/-! ### lists, trees -/
section
variable {α : Type}
@[simp] theorem nth_nil (i : Nat) : nth ([] : List α) i = none := rfl
@[simp] theorem nth_zero (a : α) (l : List α) : nth (a :: l) 0 = some a := rfl
@[simp] theorem nth_succ (a : α) (l : List α) (i : Nat) : nth (a :: l) (i + 1) = nth l i := rfl
theorem nth_eq (l : List α) : ∀ i, nth l i = l[i]? := by
  induction l with
  | nil => intro i; rfl
  | cons a l ih => intro i; cases i with
    | zero => rfl
    | succ i => simp [ih]
theorem takeN_eq (l : List α) : ∀ i, takeN l i = l.take i := by
  induction l with
  | nil => intro i; cases i <;> rfl
  | cons a l ih => intro i; cases i with
    | zero => rfl
    | succ i => show a :: takeN l i = _; simp [ih]
theorem dropN_eq (l : List α) : ∀ i, dropN l i = l.drop i := by
  induction l with
  | nil => intro i; cases i <;> rfl
  | cons a l ih => intro i; cases i with
    | zero => rfl
    | succ i => show dropN l i = _; simp [ih]
theorem lenN_eq (l : List α) : lenN l = l.length := by
  induction l with
  | nil => rfl
  | cons a l ih => show Nat.succ (lenN l) = _; simp [ih]

theorem T.get_node (l : T α) (v : Option α) (r : T α) (i : Nat) :
    (T.node l v r).get i = if i = 0 then v else if i % 2 = 1 then l.get (i / 2) else r.get (i / 2 - 1) := by
  show (bif Nat.beq i 0 then v else bif Nat.beq (i % 2) 1 then l.get (i / 2) else r.get (i / 2 - 1)) = _
  by_cases h : i = 0
  · subst h; rfl
  · rw [beq_false h, if_neg h]
    by_cases h2 : i % 2 = 1
    · rw [h2, if_pos rfl]; rfl
    · rw [beq_false h2, if_neg h2]; rfl
@[simp] theorem T.get_leaf (i : Nat) : (T.leaf : T α).get i = none := rfl


theorem T.get_one : ∀ (f i : Nat) (x : α), i < f → ∀ j, (T.one f i x).get j = if j = i then some x else none := by
  intro f
  induction f with
  | zero => intro i x h; omega
  | succ f ih =>
    intro i x h j
    show (bif Nat.beq i 0 then T.node .leaf (some x) .leaf else bif Nat.beq (i % 2) 1 then T.node (T.one f (i / 2) x) none .leaf else T.node .leaf none (T.one f (i / 2 - 1) x) : T α).get j = _
    by_cases h0 : i = 0
    · subst h0
      show (T.node .leaf (some x) .leaf : T α).get j = _
      rw [T.get_node]
      by_cases hj : j = 0 <;> simp [hj]
    · rw [beq_false h0]
      by_cases h1 : i % 2 = 1
      · rw [beq_true h1]
        show (T.node (T.one f (i / 2) x) none .leaf : T α).get j = _
        rw [T.get_node, ih (i / 2) x (by omega)]
        by_cases hj : j = i
        · subst hj; rw [if_neg h0, if_pos h1]; simp
        · rw [if_neg hj]
          split
          · rfl
          · split
            · rw [if_neg (by omega)]
            · rfl
      · rw [beq_false h1]
        show (T.node .leaf none (T.one f (i / 2 - 1) x) : T α).get j = _
        rw [T.get_node, ih (i / 2 - 1) x (by omega)]
        by_cases hj : j = i
        · subst hj; rw [if_neg h0, if_neg h1]; simp
        · rw [if_neg hj]
          split
          · rfl
          · split
            · rfl
            · rw [if_neg (by omega)]

theorem T.get_put (t : T α) : ∀ (i : Nat) (x : α) (j : Nat), (t.put i x).get j = if j = i then some x else t.get j := by
  induction t with
  | leaf =>
    intro i x j
    show (T.one (i + 1) i x).get j = _
    rw [T.get_one _ _ _ (Nat.lt_succ_self i)]; rfl
  | node l v r ihl ihr =>
    intro i x j
    show (bif Nat.beq i 0 then T.node l (some x) r else bif Nat.beq (i % 2) 1 then T.node (l.put (i / 2) x) v r else T.node l v (r.put (i / 2 - 1) x) : T α).get j = _
    by_cases h0 : i = 0
    · subst h0
      show (T.node l (some x) r : T α).get j = _
      rw [T.get_node, T.get_node]
      by_cases hj : j = 0 <;> simp [hj]
    · rw [beq_false h0]
      by_cases h1 : i % 2 = 1
      · rw [beq_true h1]
        show (T.node (l.put (i / 2) x) v r : T α).get j = _
        rw [T.get_node, T.get_node, ihl]
        by_cases hj : j = i
        · subst hj; rw [if_neg h0, if_pos h1]; simp
        · rw [if_neg hj]
          split
          · rfl
          · split
            · rw [if_neg (by omega)]
            · rfl
      · rw [beq_false h1]
        show (T.node l v (r.put (i / 2 - 1) x) : T α).get j = _
        rw [T.get_node, T.get_node, ihr]
        by_cases hj : j = i
        · subst hj; rw [if_neg h0, if_neg h1]; simp
        · rw [if_neg hj]
          split
          · rfl
          · split
            · rfl
            · rw [if_neg (by omega)]
end
theorem Heap.get_set (h : Heap) (id : Nat) (b : Blk) (j : Nat) : (h.set id b).get j = if j = id then some b else h.get j := T.get_put _ _ _ _
theorem Heap.get_add (h : Heap) (b : Blk) (j : Nat) : (h.add b).get j = if j = h.next then some b else h.get j := T.get_put _ _ _ _
@[simp] theorem Heap.next_set (h : Heap) (id : Nat) (b : Blk) : (h.set id b).next = h.next := rfl
@[simp] theorem Heap.next_add (h : Heap) (b : Blk) : (h.add b).next = h.next + 1 := rfl
@[simp] theorem Heap.get_empty (j : Nat) : Heap.empty.get j = none := rfl

theorem setCells_eq (cs : List AV) : ∀ (i : Nat) (vs : List AV), i + vs.length ≤ cs.length → setCells cs i vs = cs.take i ++ vs ++ cs.drop (i + vs.length) := by
  induction cs with
  | nil => intro i vs h; cases vs <;> simp at h ⊢; rfl
  | cons c cs ih =>
    intro i vs h
    cases i with
    | zero =>
      cases vs with
      | nil => show c :: cs = _; simp
      | cons v vs =>
        show v :: setCells cs 0 vs = _
        rw [ih 0 vs (by simp at h ⊢; omega)]; simp
    | succ i =>
      show c :: setCells cs i vs = _
      rw [ih i vs (by simp at h ⊢; omega)]
      simp [Nat.succ_add]
@[simp] theorem length_setCells (cs : List AV) : ∀ (i : Nat) (vs : List AV), (setCells cs i vs).length = cs.length := by
  induction cs with
  | nil => intros; rfl
  | cons c cs ih =>
    intro i vs
    cases i with
    | zero => cases vs with
      | nil => rfl
      | cons v vs => show (v :: setCells cs 0 vs).length = _; simp [ih]
    | succ i => show (c :: setCells cs i vs).length = _; simp [ih]
theorem getElem?_setCells (cs : List AV) (i : Nat) (vs : List AV) (h : i + vs.length ≤ cs.length) (j : Nat) :
    (setCells cs i vs)[j]? = if i ≤ j ∧ j < i + vs.length then vs[j - i]? else cs[j]? := by
  rw [setCells_eq cs i vs h]
  by_cases h1 : j < i
  · rw [if_neg (by omega), List.append_assoc, List.getElem?_append_left (by simp; omega)]
    simp [h1]
  · by_cases h2 : j < i + vs.length
    · rw [if_pos (by omega), List.append_assoc, List.getElem?_append_right (by simp; omega), List.getElem?_append_left (by simp; omega)]
      congr 1; simp; omega
    · rw [if_neg (by omega), List.getElem?_append_right (by simp; omega)]
      simp; congr 1; omega

theorem killCells_eq (lo hi : Nat) (cs : List AV) : ∀ i j, (killCells lo hi cs i)[j]? = (cs[j]?).map fun c => if lo ≤ i + j ∧ i + j < hi then .dead else c := by
  induction cs with
  | nil => intros; rfl
  | cons c cs ih =>
    intro i j
    cases j with
    | zero =>
      show some (bif Nat.ble lo i && Nat.ble (i + 1) hi then AV.dead else c) = _
      by_cases h : lo ≤ i ∧ i < hi
      · have : (Nat.ble lo i && Nat.ble (i + 1) hi) = true := by simp [Nat.ble_eq]; omega
        simp [this, h]
      · have : (Nat.ble lo i && Nat.ble (i + 1) hi) = false := by
          rw [Bool.eq_false_iff]; simp [Nat.ble_eq]; omega
        simp [this, h]
    | succ j =>
      show (killCells lo hi cs (i + 1))[j]? = _
      rw [ih]; simp; congr 1; funext c; congr 1; simp; omega
@[simp] theorem length_killCells (lo hi : Nat) (cs : List AV) : ∀ i, (killCells lo hi cs i).length = cs.length := by
  induction cs with
  | nil => intros; rfl
  | cons c cs ih => intro i; show (_ :: killCells lo hi cs (i + 1)).length = _; simp [ih]

theorem partN_some {cs : List AV} {off n : Nat} {l : List AV} (h : partN cs off n = some l) : off + n ≤ cs.length ∧ l = (cs.drop off).take n ∧ l.length = n := by
  unfold partN at h
  rw [lenN_eq] at h
  cases hb : Nat.ble (off.add n) cs.length with
  | false => rw [hb] at h; cases h
  | true =>
    rw [hb] at h
    have hle : off + n ≤ cs.length := Nat.le_of_ble_eq_true hb
    have : l = (cs.drop off).take n := by rw [dropN_eq, takeN_eq] at h; exact (Option.some.inj h).symm
    exact ⟨hle, this, by subst this; simp; omega⟩
end
end Go.Abs
namespace Go.Abs
noncomputable section
open Go
/-! ## What an abstract value says of a Go value -/
/-- where the blocks of the abstract heap lie: block and first cell -/
abbrev Map := Nat → Option (Nat × Nat)
def Map.none : Map := fun _ => .none
def RelFn (μ : Map) (f g : Fn) : Prop :=
  match f with
  | .yield id => ∃ l o, μ id = some (l, o) ∧ g = .yield l
  | f => g = f

/-- what a cell of plain data says of a value, if it is known what a list says -/
def RelCel (R : (t : PT) → List (El t) → Bool → Value → Prop) (c : Cel) (v : Value) : Prop :=
  match c with
  | .int n => v = .int .i64 n
  | .bool b => v = .bool b
  | .str s => v = .string ⟨⟨s⟩⟩
  | .sl t l => R t l false v
/-- a slice of plain data, looked at so many steps deep -/
def RelS (w : World) (F : Nat → Prop) : Nat → (t : PT) → List (El t) → Bool → Value → Prop
  | 0, _, _, _, _ => True
  | n + 1, t, l, ex, v => (l = [] ∧ v = .slice none 0 0) ∨ ∃ b o a c, F b ∧ v = .slice (some a) l.length c ∧ l.length ≤ c ∧ (ex = true → c = l.length) ∧ (c ≠ 0 → a = ⟨b, o, none⟩) ∧
      ∀ i x, l[i]? = some x → ∀ (j : Nat) cl, (cellsT t x)[j]? = some cl → ∃ u, w.cell? ⟨b, o + i * width t + j, none⟩ = some u ∧ one u = true ∧ RelCel (RelS w F n) cl u

mutual
def Rel (w : World) (F : Nat → Prop) : AV → Map → Value → Prop
  | .dead, _, _ => True
  | .bool b, _, v => v = .bool b
  | .int k n, _, v => v = .int k n
  | .str s, _, v => v = .string ⟨⟨s⟩⟩
  | .nilp, _, v => v = .pointer none
  | .ptrO id off, μ, v => ∃ b o, μ id = some (b, o) ∧ v = .pointer (some ⟨b, o + off, none⟩)
  | .ptrR cs off, _, v => ∃ b o, F b ∧ v = .pointer (some ⟨b, o + off, none⟩) ∧ RelC w F cs b o
  | .nils, _, v => v = .slice none 0 0
  | .slO id off es len cap ex, μ, v => ∃ b o a c, μ id = some (b, o) ∧ v = .slice (some a) len c ∧ len ≤ cap ∧ cap ≤ c ∧ (ex = true → c = cap) ∧
      (c ≠ 0 → a = ⟨b, o + off, none⟩ ∧ ∃ cells el fr, w.heap[b]? = some (.cells cells el fr) ∧ o + off + c * es ≤ cells.size)
  | .slR cs off len cap ex, _, v => ∃ b o a c, F b ∧ v = .slice (some a) len c ∧ len ≤ cap ∧ cap ≤ c ∧ (ex = true → c = cap) ∧
      (c ≠ 0 → a = ⟨b, o + off, none⟩) ∧ RelC w F cs b o
  | .slT t l ex, _, v => ∀ n, RelS w F n t l ex v
  | .fn f x y, μ, v => ∃ g a b, v = .func g a b ∧ RelFn μ f g ∧ RelL w F x μ a.toList ∧ RelL w F y μ b.toList
  | .nilf, _, v => v = .nilFunc
  | .ifc t x, μ, v => ∃ y, v = .iface t y ∧ Rel w F x μ y
  | .nili, _, v => v = .nilIface
  | .agg cs, μ, v => ∃ vs, v = .agg vs ∧ RelL w F cs μ vs.toList ∧ ∀ x ∈ vs.toList, one x = true
  | .tup cs, μ, v => ∃ vs, v = .tuple vs ∧ RelL w F cs μ vs.toList
def RelL (w : World) (F : Nat → Prop) : List AV → Map → List Value → Prop
  | [], _, l => l = []
  | a :: as, μ, l => ∃ v vs, l = v :: vs ∧ Rel w F a μ v ∧ RelL w F as μ vs
def RelC (w : World) (F : Nat → Prop) : List AV → Nat → Nat → Prop
  | [], _, _ => True
  | a :: as, b, o => (∃ v, w.cell? ⟨b, o, none⟩ = some v ∧ one v = true ∧ Rel w F a Map.none v) ∧ RelC w F as b (o + 1)
end
/-- map μ' says no less than μ -/
def Map.le (μ μ' : Map) : Prop := ∀ id x, μ id = some x → μ' id = some x
theorem Map.le_refl (μ : Map) : μ.le μ := fun _ _ h => h
theorem Map.le_trans {a b c : Map} (h : a.le b) (k : b.le c) : a.le c := fun id x hx => k id x (h id x hx)
theorem Map.none_le (μ : Map) : Map.none.le μ := fun _ _ h => by cases h

/-- what must be kept for what is said of values to stand: the read-only blocks as they are, the rows of the mapped blocks as long -/
structure Keeps (w : World) (F : Nat → Prop) (μ : Map) (w' : World) (F' : Nat → Prop) (μ' : Map) : Prop where
  ro : ∀ b, F b → F' b ∧ w'.heap[b]? = w.heap[b]?
  map : μ.le μ'
  rows : ∀ id b o, μ id = some (b, o) → ∀ cells el fr, w.heap[b]? = some (.cells cells el fr) → ∃ cells' el' fr', w'.heap[b]? = some (.cells cells' el' fr') ∧ cells'.size = cells.size

theorem Keeps.refl (w : World) (F : Nat → Prop) (μ : Map) : Keeps w F μ w F μ :=
  ⟨fun _ h => ⟨h, rfl⟩, Map.le_refl _, fun _ _ _ _ c e f h => ⟨c, e, f, h, rfl⟩⟩
theorem Keeps.trans {w w' w'' : World} {F F' F'' : Nat → Prop} {μ μ' μ'' : Map} (h : Keeps w F μ w' F' μ') (k : Keeps w' F' μ' w'' F'' μ'') : Keeps w F μ w'' F'' μ'' :=
  ⟨fun b hb => let ⟨h1, h2⟩ := h.ro b hb; let ⟨k1, k2⟩ := k.ro b h1; ⟨k1, k2.trans h2⟩, Map.le_trans h.map k.map,
   fun id b o hm c e f hc => by
    obtain ⟨c', e', f', h1, h2⟩ := h.rows id b o hm c e f hc
    obtain ⟨c'', e'', f'', k1, k2⟩ := k.rows id b o (h.map _ _ hm) c' e' f' h1
    exact ⟨c'', e'', f'', k1, k2.trans h2⟩⟩
/-- for values that bear no own block -/
theorem Keeps.toNone {w w' : World} {F F' : Nat → Prop} {μ μ' : Map} (h : Keeps w F μ w' F' μ') : Keeps w F Map.none w' F' Map.none :=
  ⟨h.ro, Map.le_refl _, fun _ _ _ hm => by cases hm⟩

theorem RelFn.mono {μ μ' : Map} (h : μ.le μ') {f g : Fn} (r : RelFn μ f g) : RelFn μ' f g := by
  unfold RelFn at *
  split at r <;> first | exact r | (obtain ⟨l, o, h1, h2⟩ := r; exact ⟨l, o, h _ _ h1, h2⟩)

theorem cell_of_heap {w w' : World} {b : Nat} (h : w'.heap[b]? = w.heap[b]?) (o : Nat) : w'.cell? ⟨b, o, none⟩ = w.cell? ⟨b, o, none⟩ := by
  simp [World.cell?, h]

theorem RelS.mono {w w' : World} {F F' : Nat → Prop} (k : ∀ b, F b → F' b ∧ w'.heap[b]? = w.heap[b]?) : ∀ (n : Nat) (t : PT) (l : List (El t)) (ex : Bool) (v : Value), RelS w F n t l ex v → RelS w' F' n t l ex v
  | 0, _, _, _, _, _ => by unfold RelS; trivial
  | n + 1, t, l, ex, v, h => by
    unfold RelS at *
    rcases h with h | ⟨b, o, a, c, h1, h2, h3, h4, h5, h6⟩
    · exact .inl h
    · refine .inr ⟨b, o, a, c, (k b h1).1, h2, h3, h4, h5, fun i x hx j cl hj => ?_⟩
      obtain ⟨u, q1, q2, q3⟩ := h6 i x hx j cl hj
      refine ⟨u, by rw [cell_of_heap (k b h1).2]; exact q1, q2, ?_⟩
      unfold RelCel at *
      cases cl with
      | sl t l => exact RelS.mono k n t l false u q3
      | int _ => exact q3
      | bool _ => exact q3
      | str _ => exact q3

mutual
theorem Rel.mono {w w' : World} {F F' : Nat → Prop} : ∀ (a : AV) {μ μ' : Map} (_ : Keeps w F μ w' F' μ') (v : Value), Rel w F a μ v → Rel w' F' a μ' v
  | .dead, _, _, _, _, _ => by unfold Rel; trivial
  | .bool b, _, _, _, _, h => by unfold Rel at *; exact h
  | .int k n, _, _, _, _, h => by unfold Rel at *; exact h
  | .str s, _, _, _, _, h => by unfold Rel at *; exact h
  | .nilp, _, _, _, _, h => by unfold Rel at *; exact h
  | .ptrO id off, _, _, k, _, h => by
    unfold Rel at *; obtain ⟨b, o, h1, h2⟩ := h; exact ⟨b, o, k.map _ _ h1, h2⟩
  | .ptrR cs off, _, _, k, _, h => by
    unfold Rel at *; obtain ⟨b, o, h1, h2, h3⟩ := h; exact ⟨b, o, (k.ro b h1).1, h2, RelC.mono cs k.toNone b o h1 h3⟩
  | .nils, _, _, _, _, h => by unfold Rel at *; exact h
  | .slO id off es len cap ex, _, _, k, _, h => by
    unfold Rel at *
    obtain ⟨b, o, a, c, h1, h2, h3, h4, h5, h6⟩ := h
    refine ⟨b, o, a, c, k.map _ _ h1, h2, h3, h4, h5, fun hc => ?_⟩
    obtain ⟨h7, cells, el, fr, h8, h9⟩ := h6 hc
    obtain ⟨cells', el', fr', h10, h11⟩ := k.rows id b o h1 cells el fr h8
    exact ⟨h7, cells', el', fr', h10, by omega⟩
  | .slR cs off len cap ex, _, _, k, _, h => by
    unfold Rel at *
    obtain ⟨b, o, a, c, h1, h2, h3, h4, h5, h6, h7⟩ := h
    exact ⟨b, o, a, c, (k.ro b h1).1, h2, h3, h4, h5, h6, RelC.mono cs k.toNone b o h1 h7⟩
  | .slT t l ex, _, _, k, _, h => by
    unfold Rel at *; exact fun n => RelS.mono k.ro n t l ex _ (h n)
  | .fn f x y, _, _, k, _, h => by
    unfold Rel at *
    obtain ⟨g, a, b, h1, h2, h3, h4⟩ := h
    exact ⟨g, a, b, h1, h2.mono k.map, RelL.mono x k _ h3, RelL.mono y k _ h4⟩
  | .nilf, _, _, _, _, h => by unfold Rel at *; exact h
  | .ifc t x, _, _, k, _, h => by
    unfold Rel at *; obtain ⟨y, h1, h2⟩ := h; exact ⟨y, h1, Rel.mono x k y h2⟩
  | .nili, _, _, _, _, h => by unfold Rel at *; exact h
  | .agg cs, _, _, k, _, h => by
    unfold Rel at *; obtain ⟨vs, h1, h2, h3⟩ := h; exact ⟨vs, h1, RelL.mono cs k _ h2, h3⟩
  | .tup cs, _, _, k, _, h => by
    unfold Rel at *; obtain ⟨vs, h1, h2⟩ := h; exact ⟨vs, h1, RelL.mono cs k _ h2⟩
theorem RelL.mono {w w' : World} {F F' : Nat → Prop} : ∀ (as : List AV) {μ μ' : Map} (_ : Keeps w F μ w' F' μ') (vs : List Value), RelL w F as μ vs → RelL w' F' as μ' vs
  | [], _, _, _, _, h => by unfold RelL at *; exact h
  | a :: as, _, _, k, _, h => by
    unfold RelL at *; obtain ⟨v, vs, h1, h2, h3⟩ := h; exact ⟨v, vs, h1, Rel.mono a k v h2, RelL.mono as k vs h3⟩
theorem RelC.mono {w w' : World} {F F' : Nat → Prop} : ∀ (as : List AV) (_ : Keeps w F Map.none w' F' Map.none) (b o : Nat), F b → RelC w F as b o → RelC w' F' as b o
  | [], _, _, _, _, _ => by unfold RelC; trivial
  | a :: as, k, b, o, hF, h => by
    unfold RelC at *
    obtain ⟨⟨v, h1, h2, h3⟩, h4⟩ := h
    exact ⟨⟨v, by rw [cell_of_heap (k.ro b hF).2]; exact h1, h2, Rel.mono a k v h3⟩, RelC.mono as k b (o + 1) hF h4⟩
end
/-! ### slices of plain data -/
theorem avL_map (l : List Cel) : avL l = l.map Cel.av := by
  induction l with
  | nil => rfl
  | cons c l ih => show c.av :: avL l = _; rw [ih]; rfl
theorem avT_len (t : PT) (x : El t) : (avT t x).length = width t := by rw [avT, avL_map, List.length_map, cellsT_len]
theorem flatT_len (t : PT) (l : List (El t)) : (flatT t l).length = l.length * width t := by
  unfold flatT
  induction l with
  | nil => simp
  | cons x l ih => rw [List.flatMap_cons, List.length_append, ih, avT_len, List.length_cons, Nat.succ_mul]; omega
section
variable {w : World} {F : Nat → Prop}
theorem relC_map : ∀ (as : List AV) (b o : Nat), (∀ (j : Nat) a, as[j]? = some a → ∃ v, w.cell? ⟨b, o + j, none⟩ = some v ∧ one v = true ∧ Rel w F a Map.none v) → RelC w F as b o
  | [], _, _, _ => by unfold RelC; trivial
  | a :: as, b, o, h => by
    unfold RelC
    refine ⟨h 0 a rfl, relC_map as b (o + 1) fun j c hj => ?_⟩
    have := h (j + 1) c (by simpa using hj)
    rw [show o + 1 + j = o + (j + 1) by omega]; exact this
theorem relC_get : ∀ (as : List AV) (b o : Nat), RelC w F as b o → ∀ (j : Nat) a, as[j]? = some a → ∃ v, w.cell? ⟨b, o + j, none⟩ = some v ∧ one v = true ∧ Rel w F a Map.none v
  | [], _, _, _, j, a, hj => by simp at hj
  | c :: as, b, o, h, j, a, hj => by
    unfold RelC at h
    cases j with
    | zero => simp at hj; subst hj; exact h.1
    | succ j =>
      have := relC_get as b (o + 1) h.2 j a (by simpa using hj)
      rw [show o + (j + 1) = o + 1 + j by omega]; exact this
theorem relC_app : ∀ (x y : List AV) (b o : Nat), RelC w F x b o → RelC w F y b (o + x.length) → RelC w F (x ++ y) b o
  | [], _, _, _, _, h => h
  | a :: x, y, b, o, h, k => by
    rw [List.cons_append]
    unfold RelC at h ⊢
    exact ⟨h.1, relC_app x y b (o + 1) h.2 (by rw [show o + 1 + x.length = o + (a :: x).length by simp; omega]; exact k)⟩
theorem rel_cel {c : Cel} {v : Value} (h : ∀ n, RelCel (RelS w F n) c v) : Rel w F c.av Map.none v := by
  cases c with
  | sl t l => show Rel w F (.slT t l false) _ _; unfold Rel; exact h
  | int _ => have := h 0; show Rel w F (.int _ _) _ _; unfold Rel; exact this
  | bool _ => have := h 0; show Rel w F (.bool _) _ _; unfold Rel; exact this
  | str _ => have := h 0; show Rel w F (.str _) _ _; unfold Rel; exact this
theorem cel_rel {c : Cel} {v : Value} (h : Rel w F c.av Map.none v) (n : Nat) : RelCel (RelS w F n) c v := by
  cases c with
  | sl t l => have h : Rel w F (.slT t l false) _ _ := h; unfold Rel at h; exact h n
  | int _ => have h : Rel w F (.int _ _) _ _ := h; unfold Rel at h; exact h
  | bool _ => have h : Rel w F (.bool _) _ _ := h; unfold Rel at h; exact h
  | str _ => have h : Rel w F (.str _) _ _ := h; unfold Rel at h; exact h
/-- what is known of a slice of plain data: it is nil, or a row -/
theorem inv_slT {t : PT} {l : List (El t)} {ex : Bool} {μ : Map} {v : Value} (h : Rel w F (.slT t l ex) μ v) :
    (l = [] ∧ v = .slice none 0 0) ∨ ∃ b o a c, F b ∧ v = .slice (some a) l.length c ∧ l.length ≤ c ∧ (ex = true → c = l.length) ∧ (c ≠ 0 → a = ⟨b, o, none⟩) ∧ ∀ i x, l[i]? = some x → RelC w F (avT t x) b (o + i * width t) := by
  unfold Rel at h
  have h1 := h 1
  unfold RelS at h1
  rcases h1 with h1 | ⟨b, o, a, c, q1, q2, q3, q4, q5, q6⟩
  · exact .inl h1
  refine .inr ?_
  by_cases hc : c = 0
  · refine ⟨b, o, a, c, q1, q2, q3, q4, q5, fun i x hx => ?_⟩
    have := (List.getElem?_eq_some_iff.1 hx).1
    omega
  · obtain rfl := q5 hc
    refine ⟨b, o, _, c, q1, q2, q3, q4, q5, fun i x hx => relC_map _ _ _ fun j av hj => ?_⟩
    rw [avT, avL_map, List.getElem?_map, Option.map_eq_some_iff] at hj
    obtain ⟨cl, hj, rfl⟩ := hj
    obtain ⟨u, r1, r2, _⟩ := q6 i x hx j cl hj
    refine ⟨u, r1, r2, rel_cel fun n => ?_⟩
    have hn := h (n + 1)
    unfold RelS at hn
    rcases hn with ⟨e, _⟩ | ⟨b', o', a', c', s1, s2, s3, s4, s5, s6⟩
    · subst e; simp at hx
    · rw [q2] at s2
      simp only [Value.slice.injEq, Option.some.injEq] at s2
      obtain ⟨ea, _, rfl⟩ := s2
      have := s5 hc
      rw [← ea] at this
      simp only [Addr.mk.injEq, and_true] at this
      obtain ⟨rfl, rfl⟩ := this
      obtain ⟨u', t1, _, t3⟩ := s6 i x hx j cl hj
      rw [r1] at t1; cases t1
      exact t3
theorem mk_slT {t : PT} {l : List (El t)} {ex : Bool} {μ : Map} {v : Value}
    (h : (l = [] ∧ v = .slice none 0 0) ∨ ∃ b o a c, F b ∧ v = .slice (some a) l.length c ∧ l.length ≤ c ∧ (ex = true → c = l.length) ∧ (c ≠ 0 → a = ⟨b, o, none⟩) ∧ ∀ i x, l[i]? = some x → RelC w F (avT t x) b (o + i * width t)) : Rel w F (.slT t l ex) μ v := by
  unfold Rel
  intro n
  cases n with
  | zero => unfold RelS; trivial
  | succ n =>
    unfold RelS
    rcases h with h | ⟨b, o, a, c, q1, q2, q3, q4, q5, q6⟩
    · exact .inl h
    · refine .inr ⟨b, o, a, c, q1, q2, q3, q4, q5, fun i x hx j cl hj => ?_⟩
      obtain ⟨u, r1, r2, r3⟩ := relC_get _ _ _ (q6 i x hx) j cl.av (by rw [avT, avL_map, List.getElem?_map, hj]; rfl)
      exact ⟨u, r1, r2, cel_rel r3 n⟩
theorem elAt_get {t : PT} {l : List (El t)} {i : Nat} (h : i < l.length) : l[i]? = some (elAt t l i) := by
  unfold elAt; rw [List.getD_eq_getElem?_getD, List.getElem?_eq_getElem h]; rfl
theorem relC_flatT {t : PT} {b : Nat} : ∀ (l : List (El t)) (o : Nat), (∀ i x, l[i]? = some x → RelC w F (avT t x) b (o + i * width t)) → RelC w F (flatT t l) b o
  | [], _, _ => by show RelC w F [] _ _; unfold RelC; trivial
  | x :: l, o, h => by
    show RelC w F (avT t x ++ flatT t l) b o
    refine relC_app _ _ _ _ (by have := h 0 x rfl; simpa using this) (relC_flatT l _ fun i y hy => ?_)
    have := h (i + 1) y (by simpa using hy)
    rw [avT_len, show o + width t + i * width t = o + (i + 1) * width t by rw [Nat.succ_mul]; omega]
    exact this
theorem slT_val {t : PT} {l : List (El t)} {ex : Bool} {μ : Map} {v : Value} (h : Rel w F (.slT t l ex) μ v) : ∃ a c, v = .slice a l.length c := by
  rcases inv_slT h with ⟨h, h2⟩ | ⟨b, o, a, c, q1, q2, q3, q4, q5, q6⟩
  · subst h; exact ⟨_, _, h2⟩
  · exact ⟨_, _, q2⟩
/-- .. as a row of so many cells -/
theorem slT_R {t : PT} {l : List (El t)} {ex : Bool} {μ : Map} {v : Value} (h : Rel w F (.slT t l ex) μ v) :
    (l = [] ∧ v = .slice none 0 0) ∨ ∃ cap, Rel w F (.slR (flatT t l) 0 l.length cap ex) μ v ∧ (ex = true → cap = l.length) := by
  rcases inv_slT h with h | ⟨b, o, a, c, q1, q2, q3, q4, q5, q6⟩
  · exact .inl h
  · refine .inr ⟨c, ?_, q4⟩
    unfold Rel
    exact ⟨b, o, a, c, q1, q2, q3, Nat.le_refl _, fun _ => rfl, q5, relC_flatT l o q6⟩
end
end
end Go.Abs
namespace Go.Abs
noncomputable section
open Go
/-! ## The abstract heap and the world -/
/-- what is known of a frame's temporaries -/
def TmR (w : World) (F : Nat → Prop) (μ : Map) (tm : T AV) (tmps : Array Value) : Prop := ∀ i a, tm.get i = some a → ∃ v, tmps[i]? = some v ∧ Rel w F a μ v

def RowAt (w : World) (F : Nat → Prop) (μ : Map) (b : Blk) (c o : Nat) : Prop :=
  ∃ cells el fr, w.heap[c]? = some (.cells cells el fr) ∧ o + b.cells.length ≤ cells.size ∧ (∀ (i : Nat) a, b.cells[i]? = some a → ∃ v, cells[o + i]? = some v ∧ Rel w F a μ v) ∧
    (∀ (i : Nat) v, cells[i]? = some v → one v = true) ∧ (b.frz = false → ∀ i, i < cells.size → ¬ (fr.1 ≤ i ∧ i < fr.2))

def LoopAt (w : World) (F : Nat → Prop) (μ : Map) (c n : Nat) (tm : T AV) (ps : Array Tmp) (x y : Code) (j : Option Code) (st : LoopState) : Prop :=
  ∃ f tmps d, w.heap[c]? = some (.loop { state := st, pending := j, fn := f, tmps, params := ps, assign := x, body := y, defers := d }) ∧ tmps.size = n ∧ TmR w F μ tm tmps

def live (b : Blk) : Prop := b.kind ≠ .hole

structure HRel (w : World) (F : Nat → Prop) (μ : Map) (h : Heap) : Prop where
  row : ∀ id b, h.get id = some b → b.kind = .row → ∃ c o, μ id = some (c, o) ∧ RowAt w F μ b c o
  iter : ∀ id b s p, h.get id = some b → b.kind = .iter s p → ∃ c o, μ id = some (c, o) ∧ w.heap[c]? = some (.stringIter ⟨⟨s⟩⟩ p) ∧ o = 0
  loop : ∀ id b n tm ps x y j st, h.get id = some b → b.kind = .loop n tm ps x y j st → ∃ c o, μ id = some (c, o) ∧ LoopAt w F μ c n tm ps x y j st
  grp : ∀ i j bi bj c oi oj, h.get i = some bi → h.get j = some bj → live bi → live bj → μ i = some (c, oi) → μ j = some (c, oj) → bi.grp = bj.grp ∧ oi + bj.base = oj + bi.base ∧ (i ≠ j → bi.forked = true)
  typ : ∀ id b, h.get id = some b → b.kind = .row → ∀ c o, μ id = some (c, o) → ∃ cells fr, w.heap[c]? = some (.cells cells b.el fr) ∧ (b.whole = true → o = 0 ∧ cells.size = b.cells.length)
  lt : ∀ id b, h.get id = some b → id < h.next
  fresh : ∀ id x, μ id = some x → id < h.next
  dom : ∀ id c o, μ id = some (c, o) → c < w.heap.size
  sep : ∀ b, F b → b < w.heap.size ∧ ∀ id o, μ id ≠ some (b, o)

/-- from one world to a later one: old memory that is not the call's own is as it was -/
structure Next (w : World) (F : Nat → Prop) (μ : Map) (w' : World) (F' : Nat → Prop) (μ' : Map) : Prop where
  size : w.heap.size ≤ w'.heap.size
  os : w'.os = w.os
  tape : w'.tape = w.tape
  output : w'.output = w.output
  keep : ∀ b, b < w.heap.size → (∀ id o, μ id ≠ some (b, o)) → w'.heap[b]? = w.heap[b]?
  map : μ.le μ'
  new : ∀ id c o, μ' id = some (c, o) → (∃ id0 o0, μ id0 = some (c, o0)) ∨ w.heap.size ≤ c
  ro : ∀ b, F b → F' b
  roNew : ∀ b, F' b → F b ∨ w.heap.size ≤ b
  rows : ∀ id b o, μ id = some (b, o) → ∀ cells el fr, w.heap[b]? = some (.cells cells el fr) → ∃ cells' el' fr', w'.heap[b]? = some (.cells cells' el' fr') ∧ cells'.size = cells.size

theorem Next.refl (w : World) (F : Nat → Prop) (μ : Map) : Next w F μ w F μ :=
  ⟨Nat.le_refl _, rfl, rfl, rfl, fun _ _ _ => rfl, Map.le_refl _, fun id _ o h => .inl ⟨id, o, h⟩, fun _ h => h, fun _ h => .inl h, fun _ _ _ _ c e f h => ⟨c, e, f, h, rfl⟩⟩

theorem Next.trans {w w' w'' : World} {F F' F'' : Nat → Prop} {μ μ' μ'' : Map} (h : Next w F μ w' F' μ') (k : Next w' F' μ' w'' F'' μ'') : Next w F μ w'' F'' μ'' where
  size := Nat.le_trans h.size k.size
  os := k.os.trans h.os
  tape := k.tape.trans h.tape
  output := k.output.trans h.output
  keep := fun b hb hn => by
    rw [k.keep b (Nat.lt_of_lt_of_le hb h.size) ?_, h.keep b hb hn]
    intro id o hm
    rcases h.new id b o hm with ⟨i0, o0, h0⟩ | h0
    · exact hn i0 o0 h0
    · omega
  map := Map.le_trans h.map k.map
  new := fun id c o hm => by
    rcases k.new id c o hm with ⟨i0, o0, h0⟩ | h0
    · exact h.new i0 c o0 h0
    · exact .inr (Nat.le_trans h.size h0)
  ro := fun b hb => k.ro b (h.ro b hb)
  roNew := fun b hb => by
    rcases k.roNew b hb with h0 | h0
    · exact h.roNew b h0
    · exact .inr (Nat.le_trans h.size h0)
  rows := fun id b o hm c e f hc => by
    obtain ⟨c', e', f', h1, h2⟩ := h.rows id b o hm c e f hc
    obtain ⟨c'', e'', f'', k1, k2⟩ := k.rows id b o (h.map _ _ hm) c' e' f' h1
    exact ⟨c'', e'', f'', k1, k2.trans h2⟩

theorem Next.keeps {w w' : World} {F F' : Nat → Prop} {μ μ' : Map} {h : Heap} (n : Next w F μ w' F' μ') (H : HRel w F μ h) : Keeps w F μ w' F' μ' :=
  ⟨fun b hb => ⟨n.ro b hb, n.keep b (H.sep b hb).1 (H.sep b hb).2⟩, n.map, n.rows⟩

/-- a draw -/
theorem Next.drew (w : World) (F : Nat → Prop) (μ : Map) : Next w F μ { w with drawn := w.drawn + 1 } F μ :=
  ⟨Nat.le_refl _, rfl, rfl, rfl, fun _ _ _ => rfl, Map.le_refl _, fun id _ o h => .inl ⟨id, o, h⟩, fun _ h => h, fun _ h => .inl h, fun _ _ _ _ c e f h => ⟨c, e, f, h, rfl⟩⟩

theorem TmR.mono {w w' : World} {F F' : Nat → Prop} {μ μ' : Map} (k : Keeps w F μ w' F' μ') {tm : T AV} {tmps : Array Value} (h : TmR w F μ tm tmps) : TmR w' F' μ' tm tmps :=
  fun i a hi => let ⟨v, h1, h2⟩ := h i a hi; ⟨v, h1, Rel.mono a k v h2⟩

/-- the same heap, in a later world in which the mapped blocks are as they were -/
theorem HRel.later {w w' : World} {F F' : Nat → Prop} {μ μ' : Map} {h h' : Heap} (H : HRel w F μ h) (n : Next w F μ w' F' μ')
    (hb : ∀ id c o, μ id = some (c, o) → w'.heap[c]? = w.heap[c]?) (hg : ∀ id, h'.get id = h.get id) (hn : h.next ≤ h'.next) (hm : μ' = μ)
    (hs : ∀ b, F' b → b < w'.heap.size ∧ ∀ id o, μ id ≠ some (b, o)) : HRel w' F' μ' h' := by
  subst hm
  have k := n.keeps H
  refine ⟨?_, ?_, ?_, ?_, ?_, ?_, ?_, ?_, hs⟩
  · intro id b hi hk
    rw [hg] at hi
    obtain ⟨c, o, h1, cells, el, fr, h2, h3, h4, h5, h6⟩ := H.row id b hi hk
    exact ⟨c, o, h1, cells, el, fr, (hb id c o h1).trans h2, h3, fun i a hia => let ⟨v, q1, q2⟩ := h4 i a hia; ⟨v, q1, Rel.mono a k v q2⟩, h5, h6⟩
  · intro id b s p hi hk
    rw [hg] at hi
    obtain ⟨c, o, h1, h2⟩ := H.iter id b s p hi hk
    exact ⟨c, o, h1, (hb id c o h1).trans h2.1, h2.2⟩
  · intro id b nn tm ps x y j st hi hk
    rw [hg] at hi
    obtain ⟨c, o, h1, f, tmps, d, h2, h3, h4⟩ := H.loop id b nn tm ps x y j st hi hk
    exact ⟨c, o, h1, f, tmps, d, (hb id c o h1).trans h2, h3, h4.mono k⟩
  · intro i j bi bj c oi oj hi hj; rw [hg] at hi hj; exact H.grp i j bi bj c oi oj hi hj
  · intro id b hi hk c o hm
    rw [hg] at hi
    obtain ⟨cells, fr, h1, h2⟩ := H.typ id b hi hk c o hm
    exact ⟨cells, fr, (hb id c o hm).trans h1, h2⟩
  · intro id b hi; rw [hg] at hi; exact Nat.lt_of_lt_of_le (H.lt id b hi) hn
  · intro id x hx; exact Nat.lt_of_lt_of_le (H.fresh id x hx) hn
  · intro id c o hx; exact Nat.lt_of_lt_of_le (H.dom id c o hx) n.size

theorem HRel.drew {w : World} {F : Nat → Prop} {μ : Map} {h : Heap} (H : HRel w F μ h) : HRel { w with drawn := w.drawn + 1 } F μ h :=
  H.later (Next.drew w F μ) (fun _ _ _ _ => rfl) (fun _ => rfl) (Nat.le_refl _) rfl H.sep

def Map.set (μ : Map) (id : Nat) (x : Nat × Nat) : Map := fun i => if i = id then some x else μ i
theorem Map.le_set {μ : Map} {id : Nat} {x : Nat × Nat} (h : μ id = .none) : μ.le (μ.set id x) := by
  intro i y hi
  unfold Map.set
  split
  · rename_i e; subst e; rw [h] at hi; cases hi
  · exact hi
@[simp] theorem Map.set_same (μ : Map) (id : Nat) (x : Nat × Nat) : μ.set id x id = some x := by simp [Map.set]
theorem Map.set_other (μ : Map) {id i : Nat} (x : Nat × Nat) (h : i ≠ id) : μ.set id x i = μ i := by simp [Map.set, h]

theorem heap_alloc_old (w : World) (o : Obj) (b : Nat) (h : b < w.heap.size) : (w.alloc o).heap[b]? = w.heap[b]? := by
  show (w.heap.push o)[b]? = _
  rw [Array.getElem?_push, if_neg (by omega)]
theorem heap_alloc_new (w : World) (o : Obj) : (w.alloc o).heap[w.heap.size]? = some o := by
  show (w.heap.push o)[w.heap.size]? = _
  rw [Array.getElem?_push, if_pos rfl]

/-- a new block, mapped or not -/
theorem Next.alloc (w : World) (F : Nat → Prop) (μ : Map) (o : Obj) (dom : ∀ id c o, μ id = some (c, o) → c < w.heap.size) : Next w F μ (w.alloc o) F μ :=
  ⟨by simp, rfl, rfl, rfl, fun b hb _ => heap_alloc_old w o b hb, Map.le_refl _, fun id _ o h => .inl ⟨id, o, h⟩, fun _ h => h, fun _ h => .inl h,
    fun id b o' hm c e f h => ⟨c, e, f, by rw [heap_alloc_old w o b (dom id b o' hm)]; exact h, rfl⟩⟩

theorem Next.allocAt (w : World) (F : Nat → Prop) (μ : Map) (o : Obj) (dom : ∀ id c o, μ id = some (c, o) → c < w.heap.size) {pos : Nat} (hp : μ pos = .none) : Next w F μ (w.alloc o) F (μ.set pos (w.heap.size, 0)) :=
  { Next.alloc w F μ o dom with
    map := Map.le_set hp
    new := fun id c o h => by
      unfold Map.set at h
      split at h
      · cases h; exact .inr (Nat.le_refl _)
      · exact .inl ⟨id, o, h⟩ }

/-- a heap with one more block, over a new block of the world -/
theorem HRel.addAt {w : World} {F : Nat → Prop} {μ : Map} {h h' : Heap} (H : HRel w F μ h) {pos : Nat} {b : Blk} (o : Obj) (hp : μ pos = .none)
    (hg : ∀ j, h'.get j = if j = pos then some b else h.get j) (hn : h.next ≤ h'.next) (hpn : pos < h'.next)
    (hrow : b.kind = .row → RowAt (w.alloc o) F (μ.set pos (w.heap.size, 0)) b w.heap.size 0)
    (htyp : b.kind = .row → ∃ cells fr, o = .cells cells b.el fr ∧ (b.whole = true → cells.size = b.cells.length))
    (hiter : ∀ s p, b.kind = .iter s p → o = .stringIter ⟨⟨s⟩⟩ p)
    (hloop : ∀ n tm ps x y j st, b.kind = .loop n tm ps x y j st → LoopAt (w.alloc o) F (μ.set pos (w.heap.size, 0)) w.heap.size n tm ps x y j st) :
    HRel (w.alloc o) F (μ.set pos (w.heap.size, 0)) h' := by
  have N := Next.allocAt w F μ o H.dom hp
  have k := N.keeps H
  have old : ∀ id c o', μ id = some (c, o') → (w.alloc o).heap[c]? = w.heap[c]? := fun id c o' hm => heap_alloc_old w o c (H.dom id c o' hm)
  refine ⟨?_, ?_, ?_, ?_, ?_, ?_, ?_, ?_, ?_⟩
  · intro id b' hi hk
    rw [hg] at hi
    split at hi
    · rename_i e; subst e; cases hi; exact ⟨_, _, Map.set_same _ _ _, hrow hk⟩
    · rename_i e
      obtain ⟨c, o', h1, cells, el, fr, h2, h3, h4, h5, h6⟩ := H.row id b' hi hk
      exact ⟨c, o', by rw [Map.set_other _ _ e]; exact h1, cells, el, fr, (old id c o' h1).trans h2, h3, fun i a hia => let ⟨v, q1, q2⟩ := h4 i a hia; ⟨v, q1, Rel.mono a k v q2⟩, h5, h6⟩
  · intro id b' s p hi hk
    rw [hg] at hi
    split at hi
    · rename_i e; subst e; cases hi; exact ⟨_, _, Map.set_same _ _ _, by rw [heap_alloc_new, hiter s p hk], rfl⟩
    · rename_i e
      obtain ⟨c, o', h1, h2⟩ := H.iter id b' s p hi hk
      exact ⟨c, o', by rw [Map.set_other _ _ e]; exact h1, (old id c o' h1).trans h2.1, h2.2⟩
  · intro id b' nn tm ps x y j st hi hk
    rw [hg] at hi
    split at hi
    · rename_i e; subst e; cases hi; exact ⟨_, _, Map.set_same _ _ _, hloop _ _ _ _ _ _ _ hk⟩
    · rename_i e
      obtain ⟨c, o', h1, f, tmps, d, h2, h3, h4⟩ := H.loop id b' nn tm ps x y j st hi hk
      exact ⟨c, o', by rw [Map.set_other _ _ e]; exact h1, f, tmps, d, (old id c o' h1).trans h2, h3, h4.mono k⟩
  · intro i j bi bj c oi oj hi hj li lj mi mj
    rw [hg] at hi hj
    by_cases ei : i = pos
    · subst ei
      rw [Map.set_same] at mi
      cases mi
      by_cases ej : j = i
      · subst ej
        rw [Map.set_same] at mj; cases mj
        rw [if_pos rfl] at hi hj
        cases hi; cases hj
        exact ⟨rfl, rfl, fun e => absurd rfl e⟩
      · rw [Map.set_other _ _ ej] at mj
        have := H.dom j _ _ mj
        omega
    · rw [Map.set_other _ _ ei] at mi
      rw [if_neg ei] at hi
      by_cases ej : j = pos
      · subst ej
        rw [Map.set_same] at mj
        have := H.dom i _ _ mi
        cases mj
        omega
      · rw [Map.set_other _ _ ej] at mj
        rw [if_neg ej] at hj
        exact H.grp i j bi bj c oi oj hi hj li lj mi mj
  · intro id b' hi hk c o' hm
    rw [hg] at hi
    split at hi
    · rename_i e; subst e; cases hi
      rw [Map.set_same] at hm; cases hm
      obtain ⟨cells, fr, h1, h2⟩ := htyp hk
      exact ⟨cells, fr, by rw [heap_alloc_new, h1], fun hw => ⟨rfl, h2 hw⟩⟩
    · rename_i e
      rw [Map.set_other _ _ e] at hm
      obtain ⟨cells, fr, h1, h2⟩ := H.typ id b' hi hk c o' hm
      exact ⟨cells, fr, (old id c o' hm).trans h1, h2⟩
  · intro id b' hi
    rw [hg] at hi
    split at hi
    · rename_i e; subst e; exact hpn
    · exact Nat.lt_of_lt_of_le (H.lt id b' hi) hn
  · intro id x hx
    by_cases e : id = pos
    · subst e; exact hpn
    · rw [Map.set_other _ _ e] at hx; exact Nat.lt_of_lt_of_le (H.fresh id x hx) hn
  · intro id c o' hx
    by_cases e : id = pos
    · subst e; rw [Map.set_same] at hx; cases hx; simp
    · rw [Map.set_other _ _ e] at hx; exact Nat.lt_of_lt_of_le (H.dom id c o' hx) (by simp)
  · intro b' hb
    obtain ⟨s1, s2⟩ := H.sep b' hb
    refine ⟨Nat.lt_of_lt_of_le s1 (by simp), fun id o' hx => ?_⟩
    by_cases e : id = pos
    · subst e; rw [Map.set_same] at hx; cases hx; omega
    · rw [Map.set_other _ _ e] at hx; exact s2 id o' hx

/-- a list of values as a list of abstract ones says -/
theorem RelL.get {w : World} {F : Nat → Prop} {μ : Map} : ∀ {as : List AV} {vs : List Value}, RelL w F as μ vs → as.length = vs.length ∧ ∀ (i : Nat) a, as[i]? = some a → ∃ v, vs[i]? = some v ∧ Rel w F a μ v
  | [], vs, h => by unfold RelL at h; subst h; exact ⟨rfl, fun i a h => by simp at h⟩
  | a :: as, vs, h => by
    unfold RelL at h
    obtain ⟨v, vs, rfl, h2, h3⟩ := h
    obtain ⟨h4, h5⟩ := RelL.get h3
    refine ⟨by simp [h4], fun i x hx => ?_⟩
    cases i with
    | zero => simp at hx; subst hx; exact ⟨v, rfl, h2⟩
    | succ i => simp at hx ⊢; exact h5 i x hx
theorem RelL.of {w : World} {F : Nat → Prop} {μ : Map} : ∀ {as : List AV} {vs : List Value}, as.length = vs.length → (∀ (i : Nat) a, as[i]? = some a → ∃ v, vs[i]? = some v ∧ Rel w F a μ v) → RelL w F as μ vs
  | [], [], _, _ => by unfold RelL; rfl
  | [], _ :: _, h, _ => by simp at h
  | _ :: _, [], h, _ => by simp at h
  | a :: as, v :: vs, h, k => by
    unfold RelL
    obtain ⟨v', h1, h2⟩ := k 0 a rfl
    simp at h1; subst h1
    exact ⟨v, vs, rfl, h2, RelL.of (by simpa using h) fun i x hx => by have := k (i + 1) x (by simpa using hx); simpa using this⟩
theorem RelL.append {w : World} {F : Nat → Prop} {μ : Map} {as bs : List AV} {vs us : List Value} (h : RelL w F as μ vs) (k : RelL w F bs μ us) : RelL w F (as ++ bs) μ (vs ++ us) := by
  induction as generalizing vs with
  | nil => unfold RelL at h; subst h; exact k
  | cons a as ih => unfold RelL at h; obtain ⟨v, vs, rfl, h2, h3⟩ := h; show RelL w F (a :: (as ++ bs)) μ (v :: (vs ++ us)); unfold RelL; exact ⟨v, _, rfl, h2, ih h3⟩
end
end Go.Abs
namespace Go.Abs
noncomputable section
open Go
/-! ## Stores -/
theorem setCells_heap_other (b : Nat) : ∀ (vs : List Value) (o : Nat) (w : World) (c : Nat), c ≠ b → (w.setCells b o vs).heap[c]? = w.heap[c]? := by
  intro vs
  induction vs with
  | nil => intro o w c h; rfl
  | cons v vs ih =>
    intro o w c h
    show ((w.setCell ⟨b, o, none⟩ v).setCells b (o + 1) vs).heap[c]? = _
    rw [ih _ _ _ h]
    simp [World.setCell, Array.getElem?_modify, Ne.symm h]

theorem setCells_heap_same (b : Nat) : ∀ (vs : List Value) (o : Nat) (w : World) (cells : Array Value) (el : TypeId) (fr : Nat × Nat), w.heap[b]? = some (.cells cells el fr) → o + vs.length ≤ cells.size →
    ∃ cells', (w.setCells b o vs).heap[b]? = some (.cells cells' el fr) ∧ cells'.size = cells.size ∧ ∀ j : Nat, cells'[j]? = if o ≤ j ∧ j < o + vs.length then vs[j - o]? else cells[j]? := by
  intro vs
  induction vs with
  | nil => intro o w cells el fr h _; exact ⟨cells, h, rfl, fun j => by rw [if_neg (by simp)]⟩
  | cons v vs ih =>
    intro o w cells el fr h hl
    simp at hl
    have h1 : (w.setCell ⟨b, o, none⟩ v).heap[b]? = some (.cells (cells.setIfInBounds o v) el fr) := by
      simp [World.setCell, Array.getElem?_modify, h]
    obtain ⟨cells', k1, k2, k3⟩ := ih (o + 1) (w.setCell ⟨b, o, none⟩ v) _ el fr h1 (by simp; omega)
    refine ⟨cells', k1, by simpa using k2, fun j => ?_⟩
    rw [k3]
    by_cases h2 : j = o
    · subst h2
      rw [if_neg (by omega), if_pos (by simp)]
      simp [Array.getElem?_setIfInBounds_self, show j < cells.size by omega]
    · by_cases h3 : o + 1 ≤ j ∧ j < o + 1 + vs.length
      · rw [if_pos h3, if_pos (by simp; omega)]
        obtain ⟨m, hm⟩ : ∃ m, j - o = m + 1 := ⟨j - o - 1, by omega⟩
        rw [hm, show j - (o + 1) = m by omega]; rfl
      · rw [if_neg h3, if_neg (by simp; omega), Array.getElem?_setIfInBounds_ne (by omega)]

theorem setCells_size (b : Nat) : ∀ (vs : List Value) (o : Nat) (w : World), (w.setCells b o vs).heap.size = w.heap.size := by
  intro vs
  induction vs with
  | nil => intros; rfl
  | cons v vs ih => intro o w; show ((w.setCell ⟨b, o, none⟩ v).setCells b (o + 1) vs).heap.size = _; rw [ih]; simp
theorem setCells_rest (b : Nat) : ∀ (vs : List Value) (o : Nat) (w : World), (w.setCells b o vs).os = w.os ∧ (w.setCells b o vs).tape = w.tape ∧ (w.setCells b o vs).output = w.output := by
  intro vs
  induction vs with
  | nil => intros; exact ⟨rfl, rfl, rfl⟩
  | cons v vs ih => intro o w; exact ih (o + 1) (w.setCell ⟨b, o, none⟩ v)

/-- a store into a mapped block -/
theorem Next.setCells {w : World} {F : Nat → Prop} {μ : Map} {h : Heap} (H : HRel w F μ h) {id c o : Nat} (hm : μ id = some (c, o)) (i : Nat) (vs : List Value) {cells : Array Value} {el : TypeId} {fr : Nat × Nat}
    (hc : w.heap[c]? = some (.cells cells el fr)) (hl : i + vs.length ≤ cells.size) : Next w F μ (w.setCells c i vs) F μ :=
  ⟨by rw [setCells_size]; exact Nat.le_refl _, (setCells_rest c vs i w).1, (setCells_rest c vs i w).2.1, (setCells_rest c vs i w).2.2,
    fun b _ hn => setCells_heap_other c vs i w b (fun e => hn id o (e ▸ hm)), Map.le_refl _, fun id _ o h => .inl ⟨id, o, h⟩, fun _ h => h, fun _ h => .inl h,
    fun id' b o' _ cells' el' fr' h' => by
      by_cases e : b = c
      · subst e
        obtain ⟨cs, k1, k2, _⟩ := setCells_heap_same b vs i w cells el fr hc hl
        rw [hc] at h'; cases h'
        exact ⟨cs, el, fr, k1, k2⟩
      · exact ⟨cells', el', fr', by rw [setCells_heap_other c vs i w b e]; exact h', rfl⟩⟩

def killB (grp lo hi : Nat) (b : Blk) : Blk :=
  if b.grp = grp ∧ b.kind.isRow = true then { b with cells := killCells lo hi b.cells b.base, ver := Nat.succ b.ver } else b

theorem get_killAll (h : Heap) (id grp lo hi : Nat) : ∀ n j, (killAll h id grp lo hi n).get j = if j < n ∧ j ≠ id then (h.get j).map (killB grp lo hi) else h.get j := by
  intro n
  induction n with
  | zero => intro j; rw [if_neg (by omega)]; rfl
  | succ n ih =>
    intro j
    show (bif Nat.beq n id then killAll h id grp lo hi n else
      match (killAll h id grp lo hi n).get n with
      | some b => bif Nat.beq b.grp grp && b.kind.isRow then (killAll h id grp lo hi n).set n { b with cells := killCells lo hi b.cells b.base, ver := Nat.succ b.ver } else killAll h id grp lo hi n
      | none => killAll h id grp lo hi n).get j = _
    by_cases hn : n = id
    · subst hn
      rw [beq_true rfl]
      show (killAll h n grp lo hi n).get j = _
      rw [ih]
      by_cases hj : j < n ∧ j ≠ n
      · rw [if_pos hj, if_pos (by omega)]
      · rw [if_neg hj, if_neg (by omega)]
    · rw [beq_false hn]
      show (match (killAll h id grp lo hi n).get n with
      | some b => bif Nat.beq b.grp grp && b.kind.isRow then (killAll h id grp lo hi n).set n { b with cells := killCells lo hi b.cells b.base, ver := Nat.succ b.ver } else killAll h id grp lo hi n
      | none => killAll h id grp lo hi n).get j = _
      have hget : (killAll h id grp lo hi n).get n = h.get n := by rw [ih, if_neg (by omega)]
      rw [hget]
      by_cases hj : j = n
      · subst hj
        rw [if_pos ⟨Nat.lt_succ_self _, hn⟩]
        cases hb : h.get j with
        | none => show (killAll h id grp lo hi j).get j = _; rw [hget, hb]; rfl
        | some b =>
          show (bif Nat.beq b.grp grp && b.kind.isRow then (killAll h id grp lo hi j).set j { b with cells := killCells lo hi b.cells b.base, ver := Nat.succ b.ver } else killAll h id grp lo hi j).get j = some (killB grp lo hi b)
          unfold killB
          by_cases hg : b.grp = grp
          · cases hr : b.kind.isRow with
            | true => rw [beq_true hg, if_pos ⟨hg, rfl⟩]; show ((killAll h id grp lo hi j).set j _).get j = _; rw [Heap.get_set, if_pos rfl]
            | false => rw [beq_true hg, if_neg (by simp)]; show (killAll h id grp lo hi j).get j = _; rw [hget, hb]
          · rw [beq_false hg, if_neg (by simp [hg])]; show (killAll h id grp lo hi j).get j = _; rw [hget, hb]
      · have e : ∀ (k : Heap) (x : Blk), (k.set n x).get j = k.get j := fun k x => by rw [Heap.get_set, if_neg hj]
        have : (match h.get n with
          | some b => bif Nat.beq b.grp grp && b.kind.isRow then (killAll h id grp lo hi n).set n { b with cells := killCells lo hi b.cells b.base, ver := Nat.succ b.ver } else killAll h id grp lo hi n
          | none => killAll h id grp lo hi n).get j = (killAll h id grp lo hi n).get j := by
          cases h.get n with
          | none => rfl
          | some b =>
            show (bif Nat.beq b.grp grp && b.kind.isRow then (killAll h id grp lo hi n).set n { b with cells := killCells lo hi b.cells b.base, ver := Nat.succ b.ver } else killAll h id grp lo hi n).get j = _
            cases Nat.beq b.grp grp && b.kind.isRow with
            | true => exact e _ _
            | false => rfl
        rw [this, ih]
        by_cases hj2 : j < n ∧ j ≠ id
        · rw [if_pos hj2, if_pos (by omega)]
        · rw [if_neg hj2, if_neg (by omega)]
@[simp] theorem next_killAll (h : Heap) (id grp lo hi : Nat) : ∀ n, (killAll h id grp lo hi n).next = h.next := by
  intro n
  induction n with
  | zero => rfl
  | succ n ih =>
    show (bif Nat.beq n id then killAll h id grp lo hi n else
      match (killAll h id grp lo hi n).get n with
      | some b => bif Nat.beq b.grp grp && b.kind.isRow then (killAll h id grp lo hi n).set n { b with cells := killCells lo hi b.cells b.base, ver := Nat.succ b.ver } else killAll h id grp lo hi n
      | none => killAll h id grp lo hi n).next = _
    cases Nat.beq n id with
    | true => exact ih
    | false =>
      show (match (killAll h id grp lo hi n).get n with
      | some b => bif Nat.beq b.grp grp && b.kind.isRow then (killAll h id grp lo hi n).set n { b with cells := killCells lo hi b.cells b.base, ver := Nat.succ b.ver } else killAll h id grp lo hi n
      | none => killAll h id grp lo hi n).next = _
      cases (killAll h id grp lo hi n).get n with
      | none => exact ih
      | some b =>
        show (bif Nat.beq b.grp grp && b.kind.isRow then (killAll h id grp lo hi n).set n { b with cells := killCells lo hi b.cells b.base, ver := Nat.succ b.ver } else killAll h id grp lo hi n).next = _
        cases Nat.beq b.grp grp && b.kind.isRow with
        | true => exact ih
        | false => exact ih

theorem Kind.isRow_iff {k : Kind} : k.isRow = true ↔ k = .row := by
  cases k <;> simp [Kind.isRow]

@[simp] theorem killB_kind (grp lo hi : Nat) (b : Blk) : (killB grp lo hi b).kind = b.kind := by unfold killB; split <;> rfl
@[simp] theorem killB_grp (grp lo hi : Nat) (b : Blk) : (killB grp lo hi b).grp = b.grp := by unfold killB; split <;> rfl
@[simp] theorem killB_base (grp lo hi : Nat) (b : Blk) : (killB grp lo hi b).base = b.base := by unfold killB; split <;> rfl
@[simp] theorem killB_forked (grp lo hi : Nat) (b : Blk) : (killB grp lo hi b).forked = b.forked := by unfold killB; split <;> rfl
@[simp] theorem killB_el (grp lo hi : Nat) (b : Blk) : (killB grp lo hi b).el = b.el := by unfold killB; split <;> rfl
@[simp] theorem killB_whole (grp lo hi : Nat) (b : Blk) : (killB grp lo hi b).whole = b.whole := by unfold killB; split <;> rfl
@[simp] theorem killB_frz (grp lo hi : Nat) (b : Blk) : (killB grp lo hi b).frz = b.frz := by unfold killB; split <;> rfl
@[simp] theorem killB_len (grp lo hi : Nat) (b : Blk) : (killB grp lo hi b).cells.length = b.cells.length := by unfold killB; split <;> simp
theorem killB_cell {grp lo hi : Nat} {b : Blk} {i : Nat} {a : AV} (hk : b.kind = .row) (h : (killB grp lo hi b).cells[i]? = some a) : a = .dead ∨ (b.cells[i]? = some a ∧ (b.grp = grp → ¬ (lo ≤ b.base + i ∧ b.base + i < hi))) := by
  unfold killB at h
  by_cases hg : b.grp = grp
  · rw [if_pos ⟨hg, Kind.isRow_iff.2 hk⟩] at h
    simp only [killCells_eq] at h
    cases hc : b.cells[i]? with
    | none => rw [hc] at h; cases h
    | some x =>
      rw [hc] at h
      simp only [Option.map_some, Option.some.injEq] at h
      split at h
      · exact .inl h.symm
      · rename_i hn; exact .inr ⟨by rw [← h], fun _ => hn⟩
  · rw [if_neg (by simp [hg])] at h
    exact .inr ⟨h, fun e => absurd e hg⟩

/-- the laws of a store -/
theorem HRel.store {w : World} {F : Nat → Prop} {μ : Map} {h h' : Heap} (H : HRel w F μ h) {id off : Nat} {as : List AV} (hs : storeAt h id off as = some h') {vs : List Value} (hr : RelL w F as μ vs) (h1 : ∀ v ∈ vs, one v = true) :
    ∃ c o, μ id = some (c, o) ∧ (∀ j, j < vs.length → (w.cell? ⟨c, o + off + j, none⟩).isSome = true) ∧ (∀ j, j < vs.length → w.frozen? ⟨c, o + off + j, none⟩ = false) ∧
      HRel (w.setCells c (o + off) vs) F μ h' ∧ Next w F μ (w.setCells c (o + off) vs) F μ ∧ h'.next = h.next := by
  unfold storeAt at hs
  cases hb : h.get id with
  | none => rw [hb] at hs; cases hs
  | some b =>
    rw [hb] at hs
    simp only [lenN_eq] at hs
    cases hc0 : (b.frz || !b.kind.isRow || !(Nat.ble (off.add as.length) b.cells.length)) with
    | true => rw [hc0] at hs; cases hs
    | false =>
      rw [hc0] at hs
      simp only [Bool.or_eq_false_iff, Bool.not_eq_false'] at hc0
      obtain ⟨⟨hfz, hkr⟩, hble⟩ := hc0
      have hk : b.kind = .row := Kind.isRow_iff.1 hkr
      have hle : off + as.length ≤ b.cells.length := Nat.le_of_ble_eq_true hble
      obtain ⟨c, o, hm, cells, el, fr, hw, hsz, hcell, hone, hfr⟩ := H.row id b hb hk
      obtain ⟨hlen, hget⟩ := RelL.get hr
      have hin : o + off + vs.length ≤ cells.size := by omega
      have N := Next.setCells H hm (o + off) vs hw hin
      have K := N.keeps H
      obtain ⟨cells', q1, q2, q3⟩ := setCells_heap_same c vs (o + off) w cells el fr hw hin
      refine ⟨c, o, hm, ?_, ?_, ?_, N, ?_⟩
      · intro j hj
        simp [World.cell?, hw, show o + off + j < cells.size by omega]
      · intro j hj
        simp [World.frozen?, hw]
        have := hfr hfz (o + off + j) (by omega)
        obtain ⟨lo, hi⟩ := fr
        simp at this ⊢
        omega
      · -- what the new heap has at each number
        have hgot : ∀ j b', h'.get j = some b' → (j = id ∧ b' = { b with cells := setCells b.cells off as, ver := Nat.succ b.ver }) ∨
            (j ≠ id ∧ ∃ b0, h.get j = some b0 ∧ (b' = b0 ∧ b.forked = false ∨ b' = killB b.grp (b.base + off) (b.base + off + as.length) b0)) := by
          intro j b' hj
          cases hf : b.forked with
          | false =>
            rw [hf] at hs; cases hs
            rw [Heap.get_set] at hj
            by_cases e : j = id
            · rw [if_pos e] at hj; cases hj; exact .inl ⟨e, rfl⟩
            · rw [if_neg e] at hj; exact .inr ⟨e, b', hj, .inl ⟨rfl, rfl⟩⟩
          | true =>
            rw [hf] at hs
            cases hs
            rw [get_killAll] at hj
            by_cases e : j = id
            · rw [if_neg (by simp [e]), Heap.get_set, if_pos e] at hj; cases hj; exact .inl ⟨e, rfl⟩
            · refine .inr ⟨e, ?_⟩
              by_cases hlt : j < h.next
              · rw [if_pos ⟨hlt, e⟩, Heap.get_set, if_neg e] at hj
                cases h0 : h.get j with
                | none => rw [h0] at hj; cases hj
                | some b0 => rw [h0] at hj; simp at hj; exact ⟨b0, rfl, .inr hj.symm⟩
              · rw [if_neg (by simp [hlt]), Heap.get_set, if_neg e] at hj
                exact absurd (H.lt j b' hj) hlt
        have hkind : ∀ j b', h'.get j = some b' → ∃ b0, h.get j = some b0 ∧ b'.kind = b0.kind ∧ b'.grp = b0.grp ∧ b'.base = b0.base ∧ b'.forked = b0.forked ∧ b'.el = b0.el ∧ b'.whole = b0.whole ∧ b'.cells.length = b0.cells.length := by
          intro j b' hj
          rcases hgot j b' hj with ⟨rfl, rfl⟩ | ⟨_, b0, h0, ⟨rfl, _⟩ | rfl⟩
          · exact ⟨b, hb, rfl, rfl, rfl, rfl, rfl, rfl, by simp⟩
          · exact ⟨b', h0, rfl, rfl, rfl, rfl, rfl, rfl, rfl⟩
          · exact ⟨b0, h0, by simp⟩
        have other : ∀ d, d ≠ c → (w.setCells c (o + off) vs).heap[d]? = w.heap[d]? := fun d hd => setCells_heap_other c vs (o + off) w d hd
        refine ⟨?_, ?_, ?_, ?_, ?_, ?_, ?_, ?_, ?_⟩
        · intro j b' hj hkj
          rcases hgot j b' hj with ⟨rfl, rfl⟩ | ⟨hne, b0, h0, hb'⟩
          · refine ⟨c, o, hm, cells', el, fr, q1, by simp; omega, ?_, ?_, ?_⟩
            · intro i a hi
              simp only at hi
              rw [getElem?_setCells _ _ _ hle] at hi
              by_cases hin' : off ≤ i ∧ i < off + as.length
              · rw [if_pos hin'] at hi
                obtain ⟨v, hv1, hv2⟩ := hget _ _ hi
                refine ⟨v, ?_, Rel.mono a K v hv2⟩
                rw [q3, if_pos (by omega), show o + i - (o + off) = i - off by omega]; exact hv1
              · rw [if_neg hin'] at hi
                obtain ⟨v, hv1, hv2⟩ := hcell i a hi
                refine ⟨v, ?_, Rel.mono a K v hv2⟩
                rw [q3, if_neg (by omega)]; exact hv1
            · intro i v hi
              rw [q3] at hi
              split at hi
              · exact h1 v (List.mem_of_getElem? hi)
              · exact hone i v hi
            · intro hf i hi; exact hfr hf i (by omega)
          · have hk0 : b0.kind = .row := by
              rcases hb' with ⟨rfl, _⟩ | rfl
              · exact hkj
              · simpa using hkj
            obtain ⟨c0, o0, hm0, cells0, el0, fr0, hw0, hsz0, hcell0, hone0, hfr0⟩ := H.row j b0 h0 hk0
            by_cases hcc : c0 = c
            · subst hcc
              rw [hw] at hw0; cases hw0
              obtain ⟨g1, g2, g3⟩ := H.grp j id b0 b c0 o0 o h0 hb (by simp [live, hk0]) (by simp [live, hk]) hm0 hm
              rcases hb' with ⟨rfl, hnf⟩ | rfl
              · have hfk := (H.grp id j b b' c0 o o0 hb h0 (by simp [live, hk]) (by simp [live, hk0]) hm hm0).2.2 (Ne.symm hne)
                rw [hnf] at hfk; cases hfk
              · refine ⟨c0, o0, hm0, cells', el, fr, q1, by simp; omega, ?_, ?_, ?_⟩
                · intro i a hi
                  rcases killB_cell hk0 hi with rfl | ⟨hi0, hni⟩
                  · have hlt : i < b0.cells.length := by
                      have := (List.getElem?_eq_some_iff.1 hi).1; simpa using this
                    refine ⟨cells'[o0 + i]'(by omega), by simp, by unfold Rel; trivial⟩
                  · obtain ⟨v, hv1, hv2⟩ := hcell0 i a hi0
                    refine ⟨v, ?_, Rel.mono a K v hv2⟩
                    have := hni g1
                    rw [q3, if_neg (by omega)]; exact hv1
                · intro i v hi
                  rw [q3] at hi
                  split at hi
                  · exact h1 v (List.mem_of_getElem? hi)
                  · exact hone i v hi
                · intro hf i hi; exact hfr0 (by simpa using hf) i (by omega)
            · refine ⟨c0, o0, hm0, cells0, el0, fr0, by rw [other c0 hcc]; exact hw0, ?_, ?_, hone0, ?_⟩
              · rcases hb' with ⟨rfl, _⟩ | rfl
                · exact hsz0
                · simpa using hsz0
              · intro i a hi
                rcases hb' with ⟨rfl, _⟩ | rfl
                · obtain ⟨v, hv1, hv2⟩ := hcell0 i a hi; exact ⟨v, hv1, Rel.mono a K v hv2⟩
                · rcases killB_cell hk0 hi with rfl | ⟨hi0, _⟩
                  · have hlt : i < b0.cells.length := by
                      have := (List.getElem?_eq_some_iff.1 hi).1; simpa using this
                    exact ⟨cells0[o0 + i]'(by omega), by simp, by unfold Rel; trivial⟩
                  · obtain ⟨v, hv1, hv2⟩ := hcell0 i a hi0; exact ⟨v, hv1, Rel.mono a K v hv2⟩
              · intro hf i hi
                refine hfr0 ?_ i hi
                rcases hb' with ⟨rfl, _⟩ | rfl
                · exact hf
                · simpa using hf
        · intro j b' s p hj hkj
          obtain ⟨b0, h0, k1, _⟩ := hkind j b' hj
          obtain ⟨d, o', hm', hw', ho'⟩ := H.iter j b0 s p h0 (by rw [← k1]; exact hkj)
          exact ⟨d, o', hm', by rw [other d (fun e => by subst e; rw [hw] at hw'; cases hw')]; exact hw', ho'⟩
        · intro j b' nn tm ps x y jj st hj hkj
          obtain ⟨b0, h0, k1, _⟩ := hkind j b' hj
          obtain ⟨d, o', hm', f, tmps, dd, hw', ht, htm⟩ := H.loop j b0 nn tm ps x y jj st h0 (by rw [← k1]; exact hkj)
          exact ⟨d, o', hm', f, tmps, dd, by rw [other d (fun e => by subst e; rw [hw] at hw'; cases hw')]; exact hw', ht, htm.mono K⟩
        · intro i j bi bj d oi oj hi hj li lj mi mj
          obtain ⟨b0, h0, k1, k2, k3, k4, _⟩ := hkind i bi hi
          obtain ⟨b2, h2, l1, l2, l3, l4, _⟩ := hkind j bj hj
          have := H.grp i j b0 b2 d oi oj h0 h2 (by unfold live at *; rw [← k1]; exact li) (by unfold live at *; rw [← l1]; exact lj) mi mj
          rw [k2, k3, k4, l2, l3]; exact this
        · intro j b' hj hkj d o' hm'
          obtain ⟨b0, h0, k1, _, _, _, k5, k6, k7⟩ := hkind j b' hj
          obtain ⟨cells0, fr0, t1, t2⟩ := H.typ j b0 h0 (by rw [← k1]; exact hkj) d o' hm'
          rw [k5, k6, k7]
          by_cases e : d = c
          · subst e
            rw [hw] at t1; cases t1
            exact ⟨cells', fr, q1, fun hw => by rw [q2]; exact t2 hw⟩
          · exact ⟨cells0, fr0, by rw [other d e]; exact t1, t2⟩
        · intro j b' hj
          obtain ⟨b0, h0, _⟩ := hkind j b' hj
          have := H.lt j b0 h0
          have hnx : h'.next = h.next := by
            cases hf : b.forked with
            | false => rw [hf] at hs; cases hs; rfl
            | true => rw [hf] at hs; cases hs; simp
          omega
        · intro j x hx
          have hnx : h'.next = h.next := by
            cases hf : b.forked with
            | false => rw [hf] at hs; cases hs; rfl
            | true => rw [hf] at hs; cases hs; simp
          rw [hnx]; exact H.fresh j x hx
        · intro j d o' hx; rw [setCells_size]; exact H.dom j d o' hx
        · intro d hd; rw [setCells_size]; exact H.sep d hd
      · cases hf : b.forked with
        | false => rw [hf] at hs; cases hs; rfl
        | true => rw [hf] at hs; cases hs; simp
end
end Go.Abs
namespace Go.Abs
noncomputable section
open Go
/-! ## A heap that says less; a write where nothing is known; a block over another's row -/
/-- b' says no more than b -/
structure Weak (b b' : Blk) : Prop where
  kind : b'.kind = b.kind
  grp : b'.grp = b.grp
  base : b'.base = b.base
  forked : b.forked = true → b'.forked = true
  frz : b'.frz = false → b.frz = false
  el : b'.el = b.el
  whole : b'.whole = true → b.whole = true
  len : b'.cells.length = b.cells.length
  cell : ∀ (i : Nat) a, b'.cells[i]? = some a → a = .dead ∨ b.cells[i]? = some a

theorem Weak.refl (b : Blk) : Weak b b := ⟨rfl, rfl, rfl, fun h => h, fun h => h, rfl, fun h => h, rfl, fun _ _ h => .inr h⟩
theorem Weak.kill (grp lo hi : Nat) (b : Blk) : Weak b (killB grp lo hi b) := by
  refine ⟨by simp, by simp, by simp, by simp, by simp, by simp, by simp, by simp, fun i a h => ?_⟩
  unfold killB at h
  split at h
  · simp only [killCells_eq] at h
    cases hc : b.cells[i]? with
    | none => rw [hc] at h; cases h
    | some x =>
      rw [hc] at h
      simp only [Option.map_some, Option.some.injEq] at h
      split at h
      · exact .inl h.symm
      · exact .inr (by rw [← h])
  · exact .inr h

theorem HRel.weaken {w : World} {F : Nat → Prop} {μ : Map} {h h' : Heap} (H : HRel w F μ h) (hn : h'.next = h.next)
    (hw : ∀ j b', h'.get j = some b' → (b'.kind = .hole ∧ j < h.next) ∨ ∃ b, h.get j = some b ∧ Weak b b') : HRel w F μ h' := by
  have hw' : ∀ j b', h'.get j = some b' → live b' → ∃ b, h.get j = some b ∧ Weak b b' := fun j b' hj hl => (hw j b' hj).resolve_left fun e => hl e.1
  refine ⟨?_, ?_, ?_, ?_, ?_, ?_, ?_, H.dom, H.sep⟩
  · intro j b' hj hk
    obtain ⟨b, hb, W⟩ := hw' j b' hj (by simp [live, hk])
    obtain ⟨c, o, h1, cells, el, fr, h2, h3, h4, h5, h6⟩ := H.row j b hb (by rw [← W.kind]; exact hk)
    refine ⟨c, o, h1, cells, el, fr, h2, by rw [W.len]; exact h3, ?_, h5, fun hf => h6 (W.frz hf)⟩
    intro i a hi
    rcases W.cell i a hi with rfl | hi'
    · have := (List.getElem?_eq_some_iff.1 hi).1
      rw [W.len] at this
      exact ⟨cells[o + i]'(by omega), by simp, by unfold Rel; trivial⟩
    · exact h4 i a hi'
  · intro j b' s p hj hk
    obtain ⟨b, hb, W⟩ := hw' j b' hj (by simp [live, hk])
    exact H.iter j b s p hb (by rw [← W.kind]; exact hk)
  · intro j b' nn tm ps x y jj st hj hk
    obtain ⟨b, hb, W⟩ := hw' j b' hj (by simp [live, hk])
    exact H.loop j b nn tm ps x y jj st hb (by rw [← W.kind]; exact hk)
  · intro i j bi bj c oi oj hi hj li lj mi mj
    obtain ⟨b, hb, W⟩ := hw' i bi hi li
    obtain ⟨b2, hb2, W2⟩ := hw' j bj hj lj
    obtain ⟨g1, g2, g3⟩ := H.grp i j b b2 c oi oj hb hb2 (by unfold live at *; rw [← W.kind]; exact li) (by unfold live at *; rw [← W2.kind]; exact lj) mi mj
    exact ⟨by rw [W.grp, W2.grp]; exact g1, by rw [W.base, W2.base]; exact g2, fun e => W.forked (g3 e)⟩
  · intro j b' hj hk c o hm
    obtain ⟨b, hb, W⟩ := hw' j b' hj (by simp [live, hk])
    obtain ⟨cells, fr, t1, t2⟩ := H.typ j b hb (by rw [← W.kind]; exact hk) c o hm
    exact ⟨cells, fr, by rw [W.el]; exact t1, fun hw => by rw [W.len]; exact t2 (W.whole hw)⟩
  · intro j b' hj
    rw [hn]
    rcases hw j b' hj with e | ⟨b, hb, _⟩
    · exact e.2
    · exact H.lt j b hb
  · intro j x hx; rw [hn]; exact H.fresh j x hx

/-- a write to cells of which nothing is known -/
theorem HRel.deadSet {w : World} {F : Nat → Prop} {μ : Map} {h : Heap} (H : HRel w F μ h) {id c o : Nat} (hm : μ id = some (c, o)) (s : Nat) (vs : List Value) (h1 : ∀ v ∈ vs, one v = true)
    {cells : Array Value} {el : TypeId} {fr : Nat × Nat} (hc : w.heap[c]? = some (.cells cells el fr)) (hl : s + vs.length ≤ cells.size)
    (hd : ∀ j b oj, h.get j = some b → b.kind = .row → μ j = some (c, oj) → ∀ (i : Nat) a, b.cells[i]? = some a → s ≤ oj + i → oj + i < s + vs.length → a = .dead) :
    HRel (w.setCells c s vs) F μ h := by
  have N := Next.setCells H hm s vs hc hl
  have K := N.keeps H
  obtain ⟨cells', q1, q2, q3⟩ := setCells_heap_same c vs s w cells el fr hc hl
  have other : ∀ d, d ≠ c → (w.setCells c s vs).heap[d]? = w.heap[d]? := fun d hd => setCells_heap_other c vs s w d hd
  refine ⟨?_, ?_, ?_, H.grp, ?_, H.lt, H.fresh, ?_, ?_⟩
  · intro j b hj hk
    obtain ⟨c0, o0, hm0, cells0, el0, fr0, hw0, hsz0, hcell0, hone0, hfr0⟩ := H.row j b hj hk
    by_cases hcc : c0 = c
    · subst hcc
      rw [hc] at hw0; cases hw0
      refine ⟨c0, o0, hm0, cells', el, fr, q1, by omega, ?_, ?_, fun hf i hi => hfr0 hf i (by omega)⟩
      · intro i a hi
        have hlt := (List.getElem?_eq_some_iff.1 hi).1
        by_cases hin : s ≤ o0 + i ∧ o0 + i < s + vs.length
        · rw [hd j b o0 hj hk hm0 i a hi hin.1 hin.2]
          exact ⟨cells'[o0 + i]'(by omega), by simp, by unfold Rel; trivial⟩
        · obtain ⟨v, hv1, hv2⟩ := hcell0 i a hi
          exact ⟨v, by rw [q3, if_neg hin]; exact hv1, Rel.mono a K v hv2⟩
      · intro i v hi
        rw [q3] at hi
        split at hi
        · exact h1 v (List.mem_of_getElem? hi)
        · exact hone0 i v hi
    · exact ⟨c0, o0, hm0, cells0, el0, fr0, by rw [other c0 hcc]; exact hw0, hsz0, fun i a hi => let ⟨v, hv1, hv2⟩ := hcell0 i a hi; ⟨v, hv1, Rel.mono a K v hv2⟩, hone0, hfr0⟩
  · intro j b ss p hj hk
    obtain ⟨d, o', hm', hw', ho'⟩ := H.iter j b ss p hj hk
    exact ⟨d, o', hm', by rw [other d (fun e => by subst e; rw [hc] at hw'; cases hw')]; exact hw', ho'⟩
  · intro j b nn tm ps x y jj st hj hk
    obtain ⟨d, o', hm', f, tmps, dd, hw', ht, htm⟩ := H.loop j b nn tm ps x y jj st hj hk
    exact ⟨d, o', hm', f, tmps, dd, by rw [other d (fun e => by subst e; rw [hc] at hw'; cases hw')]; exact hw', ht, htm.mono K⟩
  · intro j b hj hk d o' hm'
    obtain ⟨cells0, fr0, t1, t2⟩ := H.typ j b hj hk d o' hm'
    by_cases e : d = c
    · subst e
      rw [hc] at t1; cases t1
      exact ⟨cells', fr, q1, fun hw => by rw [q2]; exact t2 hw⟩
    · exact ⟨cells0, fr0, by rw [other d e]; exact t1, t2⟩
  · intro j d o' hx; rw [setCells_size]; exact H.dom j d o' hx
  · intro d hd; rw [setCells_size]; exact H.sep d hd

theorem Next.share {w : World} {F : Nat → Prop} {μ : Map} {id c o p o2 : Nat} (hm : μ id = some (c, o)) (hp : μ p = .none) : Next w F μ w F (μ.set p (c, o2)) :=
  { Next.refl w F μ with
    map := Map.le_set hp
    new := fun i d o' h => by
      unfold Map.set at h
      split at h
      · cases h; exact .inl ⟨id, o, hm⟩
      · exact .inl ⟨i, o', h⟩ }

/-- one more block over a row that another block has -/
theorem HRel.share {w : World} {F : Nat → Prop} {μ : Map} {h : Heap} (H : HRel w F μ h) {id c o o2 : Nat} {b : Blk} (hm : μ id = some (c, o)) (hp : μ h.next = .none) (hk : b.kind = .row) (hf : b.forked = true)
    (hrow : RowAt w F (μ.set h.next (c, o2)) b c o2) (htyp : ∃ cells fr, w.heap[c]? = some (.cells cells b.el fr)) (hwh : b.whole = false)
    (hg : ∀ j bj oj, h.get j = some bj → live bj → μ j = some (c, oj) → bj.grp = b.grp ∧ oj + b.base = o2 + bj.base ∧ bj.forked = true) :
    HRel w F (μ.set h.next (c, o2)) (h.add b) := by
  have N := Next.share (w := w) (F := F) (o2 := o2) hm hp
  have K := N.keeps H
  refine ⟨?_, ?_, ?_, ?_, ?_, ?_, ?_, ?_, ?_⟩
  · intro j b' hj hkj
    rw [Heap.get_add] at hj
    split at hj
    · rename_i e; subst e; cases hj; exact ⟨c, o2, Map.set_same _ _ _, hrow⟩
    · rename_i e
      obtain ⟨c0, o0, h1, cells, el, fr, h2, h3, h4, h5, h6⟩ := H.row j b' hj hkj
      exact ⟨c0, o0, by rw [Map.set_other _ _ e]; exact h1, cells, el, fr, h2, h3, fun i a hi => let ⟨v, q1, q2⟩ := h4 i a hi; ⟨v, q1, Rel.mono a K v q2⟩, h5, h6⟩
  · intro j b' s p hj hkj
    rw [Heap.get_add] at hj
    split at hj
    · rename_i e; subst e; cases hj; rw [hk] at hkj; cases hkj
    · rename_i e
      obtain ⟨d, o', h1, h2⟩ := H.iter j b' s p hj hkj
      exact ⟨d, o', by rw [Map.set_other _ _ e]; exact h1, h2⟩
  · intro j b' nn tm ps x y jj st hj hkj
    rw [Heap.get_add] at hj
    split at hj
    · rename_i e; subst e; cases hj; rw [hk] at hkj; cases hkj
    · rename_i e
      obtain ⟨d, o', h1, f, tmps, dd, h2, h3, h4⟩ := H.loop j b' nn tm ps x y jj st hj hkj
      exact ⟨d, o', by rw [Map.set_other _ _ e]; exact h1, f, tmps, dd, h2, h3, h4.mono K⟩
  · intro i j bi bj d oi oj hi hj li lj mi mj
    rw [Heap.get_add] at hi hj
    by_cases ei : i = h.next
    · rw [if_pos ei] at hi; cases hi
      subst ei
      rw [Map.set_same] at mi; cases mi
      by_cases ej : j = h.next
      · subst ej
        rw [if_pos rfl] at hj; cases hj
        rw [Map.set_same] at mj; cases mj
        exact ⟨rfl, rfl, fun e => absurd rfl e⟩
      · rw [if_neg ej] at hj
        rw [Map.set_other _ _ ej] at mj
        obtain ⟨g1, g2, g3⟩ := hg j bj oj hj lj mj
        exact ⟨g1.symm, by omega, fun _ => hf⟩
    · rw [if_neg ei] at hi
      rw [Map.set_other _ _ ei] at mi
      by_cases ej : j = h.next
      · subst ej
        rw [if_pos rfl] at hj; cases hj
        rw [Map.set_same] at mj; cases mj
        obtain ⟨g1, g2, g3⟩ := hg i bi oi hi li mi
        exact ⟨g1, by omega, fun _ => g3⟩
      · rw [if_neg ej] at hj
        rw [Map.set_other _ _ ej] at mj
        exact H.grp i j bi bj d oi oj hi hj li lj mi mj
  · intro j b' hj hkj d o' hm'
    rw [Heap.get_add] at hj
    split at hj
    · rename_i e; subst e; cases hj
      rw [Map.set_same] at hm'; cases hm'
      obtain ⟨cells, fr, t1⟩ := htyp
      exact ⟨cells, fr, t1, fun hw => by rw [hwh] at hw; cases hw⟩
    · rename_i e
      rw [Map.set_other _ _ e] at hm'
      exact H.typ j b' hj hkj d o' hm'
  · intro j b' hj
    rw [Heap.get_add] at hj
    split at hj
    · rename_i e; subst e; simp
    · have := H.lt j b' hj; simp; omega
  · intro j x hx
    by_cases e : j = h.next
    · subst e; simp
    · rw [Map.set_other _ _ e] at hx; have := H.fresh j x hx; simp; omega
  · intro j d o' hx
    by_cases e : j = h.next
    · subst e; rw [Map.set_same] at hx; cases hx; exact H.dom id c o hm
    · rw [Map.set_other _ _ e] at hx; exact H.dom j d o' hx
  · intro d hd
    refine ⟨(H.sep d hd).1, fun j o' hx => ?_⟩
    by_cases e : j = h.next
    · subst e; rw [Map.set_same] at hx; cases hx; exact (H.sep c hd).2 id o hm
    · rw [Map.set_other _ _ e] at hx; exact (H.sep d hd).2 j o' hx

theorem HRel.none_next {w : World} {F : Nat → Prop} {μ : Map} {h : Heap} (H : HRel w F μ h) : μ h.next = .none := by
  cases e : μ h.next with
  | none => rfl
  | some x => have := H.fresh _ _ e; omega

/-- the heap that 'appendFork' makes ready -/
def forkHeap (h : Heap) (id : Nat) (b : Blk) (lo hi : Nat) : Heap := killAll (h.set id { b with forked := true, ver := Nat.succ b.ver }) h.next b.grp lo hi h.next

theorem get_forkHeap {h : Heap} {id : Nat} {b : Blk} {lo hi : Nat} {j : Nat} {b' : Blk} (hlt : ∀ j b, h.get j = some b → j < h.next) (hb : h.get id = some b) (hj : (forkHeap h id b lo hi).get j = some b') :
    ∃ b0, h.get j = some b0 ∧ b' = killB b.grp lo hi (if j = id then { b0 with forked := true, ver := Nat.succ b0.ver } else b0) := by
  unfold forkHeap at hj
  rw [get_killAll, Heap.get_set] at hj
  by_cases e : j = id
  · subst e
    have := hlt j b hb
    rw [if_pos ⟨this, by omega⟩, if_pos rfl] at hj
    simp at hj
    exact ⟨b, hb, by rw [if_pos rfl, ← hj]⟩
  · rw [if_neg e] at hj
    cases h0 : h.get j with
    | none => rw [h0] at hj; simp at hj
    | some b0 =>
      have := hlt j b0 h0
      rw [if_pos ⟨this, by omega⟩, h0] at hj
      simp at hj
      exact ⟨b0, rfl, by rw [if_neg e, ← hj]⟩

theorem HRel.forkHeap {w : World} {F : Nat → Prop} {μ : Map} {h : Heap} (H : HRel w F μ h) {id : Nat} {b : Blk} (hb : h.get id = some b) (lo hi : Nat) : HRel w F μ (forkHeap h id b lo hi) := by
  refine H.weaken (by unfold Abs.forkHeap; simp) fun j b' hj => ?_
  obtain ⟨b0, h0, rfl⟩ := get_forkHeap H.lt hb hj
  refine .inr ⟨b0, h0, ?_⟩
  have := Weak.kill b.grp lo hi (if j = id then { b0 with forked := true, ver := Nat.succ b0.ver } else b0)
  split at this <;> rename_i e
  · rw [if_pos e]
    exact ⟨this.kind, this.grp, this.base, fun _ => this.forked rfl, this.frz, this.el, this.whole, this.len, this.cell⟩
  · rw [if_neg e]; exact this
end
end Go.Abs
namespace Go.Abs
noncomputable section
open Go
/-! ## Operations that touch no memory -/
theorem one_eq (v : Value) : v.oneCell' = one v := by cases v <;> rfl

section
variable {C : Cfg} {w : World} {F : Nat → Prop} {μ : Map} {tm : T AV}
theorem rel_dead (v : Value) : Rel w F .dead μ v := by unfold Rel; trivial

theorem rel_scalar (v : Value) : Rel w F (ofScalar v) μ v := by
  cases v with
  | pointer p => cases p with
    | none => show Rel w F .nilp μ _; unfold Rel; rfl
    | some a => exact rel_dead _
  | slice a l c => cases a with
    | none =>
      show Rel w F (bif Nat.beq l 0 && Nat.beq c 0 then .nils else .dead) μ _
      cases hl : Nat.beq l 0 <;> cases hc : Nat.beq c 0 <;> try exact rel_dead _
      have h1 := of_beq hl; have h2 := of_beq hc
      subst h1; subst h2
      show Rel w F .nils μ _; unfold Rel; rfl
    | some a => exact rel_dead _
  | func f a b => cases f with
    | func f =>
      show Rel w F (bif a.toList.isEmpty && b.toList.isEmpty then .fn (.func f) [] [] else .dead) μ _
      cases ha : a.toList.isEmpty <;> cases hb : b.toList.isEmpty <;> try exact rel_dead _
      show Rel w F (.fn (.func f) [] []) μ _
      unfold Rel
      exact ⟨.func f, a, b, rfl, rfl, by unfold RelL; simpa using ha, by unfold RelL; simpa using hb⟩
    | _ => exact rel_dead _
  | bool b => show Rel w F (.bool b) μ _; unfold Rel; rfl
  | int k n => show Rel w F (.int k n) μ _; unfold Rel; rfl
  | string s => show Rel w F (.str s.data.toList) μ _; unfold Rel; rfl
  | nilFunc => show Rel w F .nilf μ _; unfold Rel; rfl
  | nilIface => show Rel w F .nili μ _; unfold Rel; rfl
  | _ => exact rel_dead _

theorem rel_scalars (l : List Value) : RelL w F (l.map ofScalar) μ l := by
  induction l with
  | nil => unfold RelL; rfl
  | cons v l ih => show RelL w F (ofScalar v :: l.map ofScalar) μ (v :: l); unfold RelL; exact ⟨v, l, rfl, rel_scalar v, ih⟩

theorem rel_value (v : Value) : Rel w F (ofValue v) μ v := by
  unfold ofValue
  split
  · rename_i cs
    cases h : cs.toList.all one with
    | false => exact rel_dead _
    | true =>
      show Rel w F (.agg (cs.toList.map ofScalar)) μ (.agg cs)
      unfold Rel
      exact ⟨cs, rfl, rel_scalars _, fun x hx => List.all_eq_true.1 h x hx⟩
  · unfold Rel; exact ⟨_, rfl, rel_scalars _⟩
  · unfold Rel; exact ⟨_, rfl, rel_scalar _⟩
  · exact rel_scalar _

/-- what is known of package-level variables -/
structure GRel (C : Cfg) (w : World) (F : Nat → Prop) : Prop where
  at_ : ∀ g, Rel w F (C.glob g) Map.none (.pointer (some ⟨g, 0, none⟩))
  obj : ∀ g vs, C.gobj g = some vs → F g ∧ ∃ el fr, w.heap[g]? = some (.cells vs.toArray el fr)
  int : ∀ g, C.gint g = true → F g ∧ ∃ m, w.cell? ⟨g, 0, none⟩ = some (.int .i64 m)

theorem Keeps.none_le (w : World) (F : Nat → Prop) (μ : Map) : Keeps w F Map.none w F μ :=
  ⟨fun _ h => ⟨h, rfl⟩, Map.none_le _, fun _ _ _ h => by cases h⟩

theorem GRel.mono {w' : World} {F' : Nat → Prop} {μ' : Map} (G : GRel C w F) (K : Keeps w F μ w' F' μ') (K0 : Keeps w F Map.none w' F' Map.none) : GRel C w' F' where
  at_ := fun g => Rel.mono _ K0 _ (G.at_ g)
  obj := fun g vs e => let ⟨hF, el, fr, hw⟩ := G.obj g vs e; ⟨(K.ro g hF).1, el, fr, by rw [(K.ro g hF).2]; exact hw⟩
  int := fun g e => let ⟨hF, m, hm⟩ := G.int g e; ⟨(K.ro g hF).1, m, (cell_of_heap (K.ro g hF).2 0).trans hm⟩

theorem rel_operand {a : Act} (G : GRel C w F) (h : TmR w F μ tm a.tmps) (x : Operand) : Rel w F (evalO C tm x) μ (a.eval x) := by
  cases x with
  | tmp t =>
    show Rel w F (match tm.get t with | some v => v | none => .dead) μ (a.tmps.getD t undef)
    cases e : tm.get t with
    | none => exact rel_dead _
    | some v => obtain ⟨u, h1, h2⟩ := h t v e; simp [h1]; exact h2
  | const v => exact rel_value v
  | global g => exact Rel.mono _ (Keeps.none_le w F μ) _ (G.at_ g)
  | func f => show Rel w F (.fn (.func f) [] []) μ (.func (.func f) #[] #[]); unfold Rel; exact ⟨.func f, #[], #[], rfl, rfl, by unfold RelL; rfl, by unfold RelL; rfl⟩

theorem rel_operands {a : Act} (G : GRel C w F) (h : TmR w F μ tm a.tmps) (l : List Operand) : RelL w F (evalL C tm l) μ (l.map a.eval) := by
  induction l with
  | nil => show RelL w F [] μ []; unfold RelL; rfl
  | cons x l ih => show RelL w F (evalO C tm x :: evalL C tm l) μ (a.eval x :: l.map a.eval); unfold RelL; exact ⟨_, _, rfl, rel_operand G h x, ih⟩

/-! ### readings of single abstract values -/
theorem rel_bool {b : Bool} {v : Value} (h : Rel w F (.bool b) μ v) : v = .bool b := by unfold Rel at h; exact h
theorem rel_int {k : IntKind} {n : Int} {v : Value} (h : Rel w F (.int k n) μ v) : v = .int k n := by unfold Rel at h; exact h
theorem rel_str {s : List UInt8} {v : Value} (h : Rel w F (.str s) μ v) : v = .string ⟨⟨s⟩⟩ := by unfold Rel at h; exact h
theorem mk_bool (b : Bool) : Rel w F (.bool b) μ (.bool b) := by unfold Rel; rfl
theorem mk_int (k : IntKind) (n : Int) : Rel w F (.int k n) μ (.int k n) := by unfold Rel; rfl
theorem mk_str (s : List UInt8) : Rel w F (.str s) μ (.string ⟨⟨s⟩⟩) := by unfold Rel; rfl
theorem mk_unit : Rel w F (.tup []) μ undef := by unfold Rel; exact ⟨#[], rfl, by unfold RelL; rfl⟩
theorem mk_nili : Rel w F .nili μ .nilIface := by unfold Rel; rfl
theorem rel_agg {cs : List AV} {v : Value} (h : Rel w F (.agg cs) μ v) : ∃ vs, v = .agg vs ∧ RelL w F cs μ vs.toList ∧ ∀ x ∈ vs.toList, one x = true := by unfold Rel at h; exact h
theorem rel_tup {cs : List AV} {v : Value} (h : Rel w F (.tup cs) μ v) : ∃ vs, v = .tuple vs ∧ RelL w F cs μ vs.toList := by unfold Rel at h; exact h

/-! ### types -/
theorem run_info {t : TypeId} {i : TypeInfo} (P : Program) (h : P.info? t = some i) : (typeInfo t).run P w = .ok i w := by simp [typeInfo, h]
theorem run_size {P : Program} {t : TypeId} {i : TypeInfo} (h : P.info? t = some i) : (sizeOf t).run P w = .ok i.size w := by simp [sizeOf, typeInfo, h]
theorem run_isAgg {P : Program} {t : TypeId} {d : TypeDesc} (h : P.underlying t = some d) : (isAgg t).run P w = .ok (isAggD d) w := by
  unfold isAgg
  simp [run_underlying h]
  cases d <;> rfl

theorem underlying_info {P : Program} {t : TypeId} {d : TypeDesc} (h : P.underlying t = some d) : ∃ i, P.info? t = some i := by
  unfold Program.underlying at h
  split at h
  · rename_i hh; exact ⟨_, hh⟩
  · exact ⟨_, by assumption⟩
  · cases h

/-! ### numbers, strings -/
theorem wrapF_eq (k : IntKind) (n : Int) : wrapF k n = k.wrap n := by
  unfold wrapF
  split
  · cases h : inR64 n with
    | false => rfl
    | true =>
      show n = IntKind.i64.wrap n
      cases n with
      | ofNat m =>
        have : m ≤ 9223372036854775807 := Nat.le_of_ble_eq_true h
        exact (IntWalk.i64_in _ (by rw [show Int.ofNat m = (m : Int) from rfl]; omega)).symm
      | negSucc m =>
        have : m ≤ 9223372036854775807 := Nat.le_of_ble_eq_true h
        exact (IntWalk.i64_in _ (by omega)).symm
  · rfl

theorem intBin_sound {P : Program} {op : BinOp} {k : IntKind} {x y : Int} {a : AV} (t : TypeId) (hs : op ≠ .shl) (hr : op ≠ .shr) (h : intBin op k x y = some a) : ∃ v, (binOp op t (.int k x) (.int k y)).run P w = .ok v w ∧ Rel w F a μ v := by
  cases op <;> simp only [intBin, wrapF_eq, cond_eq_ite, Option.some.injEq, reduceCtorEq] at h <;> first
    | (exact absurd rfl hs) | (exact absurd rfl hr)
    | (subst h; exact ⟨_, by simp only [binOp, ne_eq, not_true_eq_false, if_false]; rfl, mk_int _ _⟩)
    | (subst h; exact ⟨_, by simp only [binOp, ne_eq, not_true_eq_false, if_false]; rfl, mk_bool _⟩)
    | (by_cases hy : y = 0
       · simp [hy] at h
       · simp [hy] at h; subst h; exact ⟨_, by simp [binOp, Op.intDiv, hy], mk_int _ _⟩)

theorem shiftBin_sound {P : Program} {op : BinOp} {k k' : IntKind} {x y : Int} {a : AV} (t : TypeId) (ho : op = .shl ∨ op = .shr) (h : shiftBin op k x y = some a) : ∃ v, (binOp op t (.int k x) (.int k' y)).run P w = .ok v w ∧ Rel w F a μ v := by
  unfold shiftBin at h
  by_cases hy : y < 0
  · simp [hy] at h
  · rcases ho with rfl | rfl
    · simp [hy] at h; subst h; exact ⟨.int k (k.wrap (x * 2 ^ min y.toNat k.bits)), by simp [binOp, Op.shift, hy], mk_int _ _⟩
    · simp [hy] at h; subst h; exact ⟨.int k (x.fdiv (2 ^ min y.toNat k.bits)), by simp [binOp, Op.shift, hy], mk_int _ _⟩

theorem beqBytes_eq (a b : List UInt8) : beqBytes a b = (a == b) := by
  induction a generalizing b with
  | nil => cases b <;> rfl
  | cons x a ih =>
    cases b with
    | nil => rfl
    | cons y b =>
      show (Nat.beq x.toNat y.toNat && beqBytes a b) = _
      rw [ih]
      by_cases h : x = y
      · subst h; simp
      · rw [beq_false (fun e => h (UInt8.toNat_inj.1 e))]
        simp [h]

theorem toList_mk (s : List UInt8) : (⟨⟨s⟩⟩ : ByteArray).toList = s := by
  rw [ByteArray.toList_eq]

theorem mk_append (x y : List UInt8) : (⟨⟨x⟩⟩ : ByteArray) ++ ⟨⟨y⟩⟩ = ⟨⟨x ++ y⟩⟩ := by
  apply ByteArray.ext
  simp

theorem strBin_sound {P : Program} {op : BinOp} {x y : List UInt8} {a : AV} (t : TypeId) (h : strBin op x y = some a) : ∃ v, (binOp op t (.string ⟨⟨x⟩⟩) (.string ⟨⟨y⟩⟩)).run P w = .ok v w ∧ Rel w F a μ v := by
  have e1 : (binOp op t (.string ⟨⟨x⟩⟩) (.string ⟨⟨y⟩⟩)) = Op.stringOp op ⟨⟨x⟩⟩ ⟨⟨y⟩⟩ := by cases op <;> rfl
  rw [e1]
  cases op <;> simp only [strBin, beqBytes_eq, Option.some.injEq, reduceCtorEq, lenN_eq, cond_eq_ite] at h
  case add =>
    split at h
    · rename_i hb
      cases h
      have hle : x.length + y.length ≤ 4611686018427387904 := Nat.le_of_ble_eq_true hb
      refine ⟨.string (⟨⟨x⟩⟩ ++ ⟨⟨y⟩⟩), ?_, by rw [mk_append]; exact mk_str _⟩
      have hs : ((⟨⟨x⟩⟩ : ByteArray).size + (⟨⟨y⟩⟩ : ByteArray).size : Int) ≤ 9223372036854775807 := by
        have h1 : (⟨⟨x⟩⟩ : ByteArray).size = x.length := rfl
        have h2 : (⟨⟨y⟩⟩ : ByteArray).size = y.length := rfl
        rw [h1, h2]; omega
      simp [Op.stringOp, IntKind.max, IntKind.signed, IntKind.bits]
      omega
    · cases h
  all_goals (subst h; exact ⟨_, by simp only [Op.stringOp, toList_mk]; rfl, mk_bool _⟩)
end
end
end Go.Abs
namespace Go.Abs
noncomputable section
open Go
/-! ## Reading memory; parts; equality -/
section
variable {C : Cfg} {w : World} {F : Nat → Prop} {μ : Map} {h : Heap}
theorem sizeT_eq {t : TypeId} {i : TypeInfo} (hi : C.P.info? t = some i) : sizeT C t = i.size := by simp [sizeT, hi]

theorem rel_take {cs : List AV} {vs : List Value} (r : RelL w F cs μ vs) (off n : Nat) : RelL w F ((cs.drop off).take n) μ ((vs.drop off).take n) := by
  obtain ⟨h1, h2⟩ := RelL.get r
  refine RelL.of (by simp [h1]) fun i a hi => ?_
  rw [List.getElem?_take] at hi
  split at hi
  · rename_i hlt
    rw [List.getElem?_drop] at hi
    obtain ⟨v, h3, h4⟩ := h2 _ _ hi
    exact ⟨v, by rw [List.getElem?_take, if_pos hlt, List.getElem?_drop]; exact h3, h4⟩
  · cases hi

theorem one_take {vs : List Value} (h : ∀ x ∈ vs, one x = true) (off n : Nat) : ∀ x ∈ (vs.drop off).take n, one x = true :=
  fun x hx => h x (List.mem_of_mem_drop (List.mem_of_mem_take hx))

/-- a value made of cells -/
theorem mkT_sound {t : TypeId} {cs : List AV} {a : AV} (hm : mkT C t cs = some a) : ∃ d i, C.P.underlying t = some d ∧ C.P.info? t = some i ∧
    ((isAggD d = true ∧ a = .agg cs) ∨ (isAggD d = false ∧ cs = [a])) := by
  unfold mkT at hm
  cases hu : C.P.underlying t with
  | none => rw [hu] at hm; cases hm
  | some d =>
    rw [hu] at hm
    obtain ⟨i, hi⟩ := underlying_info hu
    refine ⟨d, i, rfl, hi, ?_⟩
    cases hd : isAggD d with
    | true => simp [hd] at hm; exact .inl ⟨rfl, hm.symm⟩
    | false =>
      simp [hd] at hm
      match cs, hm with
      | [c], hm => simp at hm; exact .inr ⟨rfl, by rw [hm]⟩

theorem part_sound {t : TypeId} {cs : List AV} {vs : Array Value} {a : AV} (off : Nat) (r : RelL w F cs μ vs.toList) (ho : ∀ x ∈ vs.toList, one x = true)
    (hm : mkT C t (takeN (dropN cs off) (sizeT C t)) = some a) : ∃ v, (part t vs off).run C.P w = .ok v w ∧ Rel w F a μ v := by
  rw [takeN_eq, dropN_eq] at hm
  obtain ⟨d, i, hu, hi, hc⟩ := mkT_sound hm
  rw [sizeT_eq hi] at hc hm
  have r2 := rel_take r off i.size
  rcases hc with ⟨hd, rfl⟩ | ⟨hd, hcs⟩
  · refine ⟨.agg (vs.extract off (off + i.size)), by simp [part, run_isAgg hu, hd, run_size hi], ?_⟩
    unfold Rel
    have e : (vs.extract off (off + i.size)).toList = (vs.toList.drop off).take i.size := by simp [Array.toList_extract, List.extract_eq_take_drop]
    exact ⟨_, rfl, by rw [e]; exact r2, by rw [e]; exact one_take ho off i.size⟩
  · rw [hcs] at r2
    unfold RelL at r2
    obtain ⟨v, rest, h1, h2, h3⟩ := r2
    refine ⟨v, ?_, h2⟩
    have : vs[off]? = some v := by
      have e : ((vs.toList.drop off).take i.size)[0]? = some v := by rw [h1]; rfl
      rw [List.getElem?_take] at e
      split at e
      · rw [List.getElem?_drop] at e; simpa using e
      · cases e
    simp [part, run_isAgg hu, hd, this]

/-- the cells that are read at a pointer -/
theorem read_sound (H : HRel w F μ h) {p : AV} {v : Value} {n : Nat} {cs : List AV} (r : Rel w F p μ v) (hr : readAt h p n = some cs) :
    ∃ b o vs, v = .pointer (some ⟨b, o, none⟩) ∧ vs.length = n ∧ (∀ j u, vs[j]? = some u → w.cell? ⟨b, o + j, none⟩ = some u) ∧ RelL w F cs μ vs ∧ (∀ x ∈ vs, one x = true) := by
  unfold readAt at hr
  split at hr
  · rename_i id off
    unfold Rel at r
    obtain ⟨b, o, hm, rfl⟩ := r
    unfold cellsAt at hr
    cases hb : h.get id with
    | none => rw [hb] at hr; cases hr
    | some bl =>
      rw [hb] at hr
      cases hk : bl.kind.isRow with
      | false => simp [hk] at hr
      | true =>
        simp [hk] at hr
        obtain ⟨h1, h2, h3⟩ := partN_some hr
        obtain ⟨c, o', hm', cells, el, fr, hw, hsz, hcell, hone, _⟩ := H.row id bl hb (Kind.isRow_iff.1 hk)
        rw [hm] at hm'; cases hm'
        refine ⟨b, o + off, (cells.toList.drop (o + off)).take n, rfl, by simp; omega, ?_, ?_, ?_⟩
        · intro j u hj
          rw [List.getElem?_take] at hj
          split at hj
          · rw [List.getElem?_drop] at hj
            simp [World.cell?, hw]; simpa using hj
          · cases hj
        · refine RelL.of (by simp [h3]; omega) fun i a hi => ?_
          rw [h2, List.getElem?_take] at hi
          split at hi
          · rename_i hlt
            rw [List.getElem?_drop] at hi
            obtain ⟨v, q1, q2⟩ := hcell _ _ hi
            refine ⟨v, ?_, q2⟩
            rw [List.getElem?_take, if_pos hlt, List.getElem?_drop]
            simpa [Nat.add_assoc] using q1
          · cases hi
        · intro x hx
          have := List.mem_of_mem_drop (List.mem_of_mem_take hx)
          obtain ⟨i, hi⟩ := List.mem_iff_getElem?.1 this
          exact hone i x (by simpa using hi)
  · rename_i cs0 off
    unfold Rel at r
    obtain ⟨b, o, hF, rfl, hc⟩ := r
    obtain ⟨h1, h2, h3⟩ := partN_some hr
    have hall : ∀ (l : List AV) (o : Nat), RelC w F l b o → ∃ vs : List Value, vs.length = l.length ∧ (∀ j u, vs[j]? = some u → w.cell? ⟨b, o + j, none⟩ = some u) ∧ RelL w F l μ vs ∧ (∀ x ∈ vs, one x = true) := by
      intro l
      induction l with
      | nil => intro o _; exact ⟨[], rfl, fun j u hj => by simp at hj, by unfold RelL; rfl, fun x hx => by cases hx⟩
      | cons a l ih =>
        intro o hc
        unfold RelC at hc
        obtain ⟨⟨v, q1, q2, q3⟩, q4⟩ := hc
        obtain ⟨vs, i1, i2, i3, i4⟩ := ih (o + 1) q4
        refine ⟨v :: vs, by simp [i1], ?_, ?_, ?_⟩
        · intro j u hj
          cases j with
          | zero => simp at hj; subst hj; exact q1
          | succ j => simp at hj; have := i2 j u hj; rwa [show o + 1 + j = o + (j + 1) by omega] at this
        · unfold RelL; exact ⟨v, vs, rfl, Rel.mono _ (Keeps.none_le w F μ) _ q3, i3⟩
        · intro x hx
          rcases List.mem_cons.1 hx with rfl | hx
          · exact q2
          · exact i4 x hx
    obtain ⟨vs, i1, i2, i3, i4⟩ := hall cs0 o hc
    refine ⟨b, o + off, (vs.drop off).take n, rfl, by simp; omega, ?_, ?_, one_take i4 off n⟩
    · intro j u hj
      rw [List.getElem?_take] at hj
      split at hj
      · rw [List.getElem?_drop] at hj
        have := i2 _ _ hj
        rwa [show o + (off + j) = o + off + j by omega] at this
      · cases hj
    · rw [h2]; exact rel_take i3 off n
  · cases hr

theorem addr_add (b o n : Nat) : (⟨b, o, none⟩ : Addr).add n = ⟨b, o + n, none⟩ := by unfold Addr.add; split <;> simp_all

theorem load_sound (H : HRel w F μ h) {t : TypeId} {p a : AV} {v : Value} (r : Rel w F p μ v) (hl : opLoad C h t p = some a) : ∃ u, (Instr.loadAt t v).run C.P w = .ok u w ∧ Rel w F a μ u := by
  unfold opLoad at hl
  cases hr : readAt h p (sizeT C t) with
  | none => rw [hr] at hl; cases hl
  | some cs =>
    rw [hr] at hl
    obtain ⟨d, i, hu, hi, hc⟩ := mkT_sound hl
    rw [sizeT_eq hi] at hr
    obtain ⟨b, o, vs, rfl, h1, h2, h3, h4⟩ := read_sound H r hr
    have hrow := run_loadCells_list (P := C.P) (w := w) (⟨b, o, none⟩ : Addr) vs (fun j u hj => by rw [addr_add]; exact h2 j u hj)
    rw [h1] at hrow
    rcases hc with ⟨hd, rfl⟩ | ⟨hd, rfl⟩
    · refine ⟨.agg vs.toArray, by simp [Instr.loadAt, Instr.sureAddr, loadVar, run_isAgg hu, hd, run_size hi, hrow], ?_⟩
      unfold Rel
      exact ⟨_, rfl, by simpa using h3, by simpa using h4⟩
    · unfold RelL at h3
      obtain ⟨u, rest, rfl, q1, q2⟩ := h3
      refine ⟨u, ?_, q1⟩
      have := h2 0 u rfl
      simp [Instr.loadAt, Instr.sureAddr, loadVar, run_isAgg hu, hd, this]
      have e : w.cell? ⟨b, o, none⟩ = some u := by simpa using this
      rw [e]

/-! ### equality -/
theorem eqT_sound : ∀ (n : Nat) (t : TypeId) (x y : AV) (b : Bool) (vx vy : Value), eqT C n t x y = some b → Rel w F x μ vx → Rel w F y μ vy → ∀ d, n ≤ d → (Op.equalIn d t vx vy).run C.P w = .ok b w := by
  intro n
  induction n with
  | zero => intro t x y b vx vy h; cases h
  | succ n ih =>
    intro t x y b vx vy h rx ry d hd
    obtain ⟨d, rfl⟩ : ∃ e, d = e + 1 := ⟨d - 1, by omega⟩
    simp only [eqT] at h
    split at h
    · rename_i hu
      split at h
      · simp at h; subst h; rw [rel_bool rx, rel_bool ry]; exact run_equalIn_bool' w d t _ _ hu
      · cases h
    · rename_i k0 hu
      split at h
      · rename_i k a k' b'
        rw [rel_int rx, rel_int ry]
        by_cases hk : k = k'
        · subst hk; simp at h; subst h; exact run_equalIn_int w d t k k0 a b' hu
        · simp [hk] at h
      · cases h
    · rename_i hu
      split at h
      · simp at h; subst h; rw [rel_str rx, rel_str ry, run_equalIn_string w d t _ _ hu, toList_mk, toList_mk, beqBytes_eq]
      · cases h
    · rename_i fs hu
      cases hst : C.P.stoodInHeld t with
      | true => simp [hst] at h
      | false =>
        cases hkn : knownAll C fs.toList with
        | false => simp [hst, hkn] at h
        | true =>
          simp only [hst, hkn, Bool.not_true, Bool.or_self, cond_false] at h
          split at h
          · rename_i xs ys
            obtain ⟨us, rfl, r1, o1⟩ := rel_agg rx
            obtain ⟨vs, rfl, r2, o2⟩ := rel_agg ry
            have hf : C.P.fieldsOf t = fs := by simp [Program.fieldsOf, hu]
            rw [run_equalIn_struct w d t us vs (by rw [hf]; exact hu) hst, hf]
            clear hu hkn hst hf rx ry
            revert b
            generalize fs.toList = l
            induction l with
            | nil => intro b h; simp [eqFields] at h; subst h; rfl
            | cons f l ihl =>
              intro b h
              simp only [eqFields] at h
              unfold Op.eqFields
              by_cases hn : f.name = "_"
              · simp [hn] at h
                rw [if_neg (by simp [hn])]
                exact ihl b h
              · have hn' : (f.name == "_") = false := by simp [hn]
                rw [hn'] at h
                simp only [cond_false] at h
                rw [if_pos hn]
                split at h
                · rename_i x y hx hy
                  split at h
                  · rename_i a c ha hc
                    cases h
                    obtain ⟨u, p1, p2⟩ := part_sound f.offset r1 o1 hx
                    obtain ⟨v, p3, p4⟩ := part_sound f.offset r2 o2 hy
                    have e := ih f.type x y a u v ha p2 p4 d (by omega)
                    have e2 := ihl c hc
                    cases a <;> simp [p1, p3, e, e2]
                  · cases h
                · cases h
          · cases h
    · cases h
end
end
end Go.Abs
namespace Go.Abs
noncomputable section
open Go
section
variable {C : Cfg} {w : World} {F : Nat → Prop} {μ : Map} {h : Heap}
/-! ### nil -/
theorem isNilS_sound {x : AV} {b : Bool} {v : Value} (h : isNilS x = some b) (r : Rel w F x μ v) : ∃ a l c, v = .slice a l c ∧ a.isNone = b := by
  cases x <;> simp only [isNilS, Option.some.injEq, reduceCtorEq] at h <;> subst h <;> unfold Rel at r
  case nils => subst r; exact ⟨_, _, _, rfl, rfl⟩
  case slO => obtain ⟨b, o, a, c, _, rfl, _⟩ := r; exact ⟨_, _, _, rfl, rfl⟩
  case slR => obtain ⟨b, o, a, c, _, rfl, _⟩ := r; exact ⟨_, _, _, rfl, rfl⟩
theorem isNilF_sound {x : AV} {b : Bool} {v : Value} (h : isNilF x = some b) (r : Rel w F x μ v) : (b = true ∧ v = .nilFunc) ∨ (b = false ∧ ∃ f p q, v = .func f p q) := by
  cases x <;> simp only [isNilF, Option.some.injEq, reduceCtorEq] at h <;> subst h <;> unfold Rel at r
  case nilf => exact .inl ⟨rfl, r⟩
  case fn => obtain ⟨g, a, b, rfl, _⟩ := r; exact .inr ⟨rfl, _, _, _, rfl⟩
theorem isNilP_sound {x : AV} {b : Bool} {v : Value} (h : isNilP x = some b) (r : Rel w F x μ v) : ∃ a, v = .pointer a ∧ a.isNone = b := by
  cases x <;> simp only [isNilP, Option.some.injEq, reduceCtorEq] at h <;> subst h <;> unfold Rel at r
  case nilp => subst r; exact ⟨_, rfl, rfl⟩
  case ptrO => obtain ⟨b, o, _, rfl⟩ := r; exact ⟨_, rfl, rfl⟩
  case ptrR => obtain ⟨b, o, _, rfl, _⟩ := r; exact ⟨_, rfl, rfl⟩

theorem eqNil_cases {x y : Option Bool} {b : Bool} (h : eqNil x y = some b) : (x = some true ∧ y = some b) ∨ (x = some b ∧ y = some true) := by
  unfold eqNil at h
  split at h
  · simp at h; subst h; exact .inl ⟨rfl, rfl⟩
  · simp at h; subst h; exact .inr ⟨rfl, rfl⟩
  · cases h

theorem equal_of {P : Program} {t : TypeId} {vx vy : Value} {b : Bool} (h : (Op.equalIn (9999 + 1) t vx vy).run P w = .ok b w) : (Op.equal t vx vy).run P w = .ok b w := h

theorem guard_plain {P : Program} {t : TypeId} {vx vy : Value} (h1 : ∀ a c, ¬ (vx = .agg a ∧ vy = .agg c)) (h2 : ¬ (vx = .nilIface ∧ vy = .nilIface)) (op : BinOp) (xo yo : Operand) : (eqGuard op t xo yo vx vy).run P w = .ok () w := by
  unfold eqGuard
  split
  all_goals simp only [Bool.not_true, Bool.not_false, Bool.false_eq_true, if_false, if_true]
  · split
    · exact absurd ⟨rfl, rfl⟩ h2
    · exact absurd ⟨rfl, rfl⟩ (h1 _ _)
    · rfl
  · split
    · exact absurd ⟨rfl, rfl⟩ h2
    · exact absurd ⟨rfl, rfl⟩ (h1 _ _)
    · rfl
  · rfl

theorem guard_const {P : Program} {t : TypeId} (op : BinOp) (xo yo : Operand) (h : isConstO xo = true ∨ isConstO yo = true) : (eqGuard op t xo yo .nilIface .nilIface).run P w = .ok () w := by
  unfold eqGuard
  split
  all_goals simp only [Bool.not_true, Bool.not_false, Bool.false_eq_true, if_false, if_true]
  · cases xo <;> cases yo <;> first | rfl | (simp [isConstO] at h)
  · cases xo <;> cases yo <;> first | rfl | (simp [isConstO] at h)
  · rfl

theorem guard_agg {P : Program} {t : TypeId} {vx vy : Value} (h1 : P.eqGuardType P.depth t = false) (h2 : ¬ (vx = .nilIface ∧ vy = .nilIface)) (op : BinOp) (xo yo : Operand) : (eqGuard op t xo yo vx vy).run P w = .ok () w := by
  unfold eqGuard
  split
  all_goals simp only [Bool.not_true, Bool.not_false, Bool.false_eq_true, if_false, if_true]
  · split
    · exact absurd ⟨rfl, rfl⟩ h2
    · simp [h1]
    · rfl
  · split
    · exact absurd ⟨rfl, rfl⟩ h2
    · simp [h1]
    · rfl
  · rfl

theorem eqAV_sound {t : TypeId} {cx : Bool} {x y : AV} {b : Bool} {vx vy : Value} (he : eqAV C t cx x y = some b) (rx : Rel w F x μ vx) (ry : Rel w F y μ vy) :
    (Op.equal t vx vy).run C.P w = .ok b w ∧ (∀ op xo yo, (cx = true → isConstO xo = true ∨ isConstO yo = true) → (eqGuard op t xo yo vx vy).run C.P w = .ok () w) := by
  unfold eqAV at he
  split at he
  · rename_i e hu
    rcases eqNil_cases he with ⟨e1, e2⟩ | ⟨e1, e2⟩
    all_goals
      obtain ⟨a, l, c, rfl, ha⟩ := isNilS_sound e1 rx
      obtain ⟨a', l', c', rfl, hb⟩ := isNilS_sound e2 ry
      refine ⟨equal_of ?_, fun op xo yo _ => guard_plain (by simp) (by simp) op xo yo⟩
      unfold Op.equalIn
      cases a <;> cases a' <;> simp [run_underlying hu] at * <;> simp_all
  · rename_i hu
    rcases eqNil_cases he with ⟨e1, e2⟩ | ⟨e1, e2⟩
    all_goals
      refine ⟨?_, ?_⟩
      · rcases isNilF_sound e1 rx with ⟨q, rfl⟩ | ⟨q, _, _, _, rfl⟩ <;> rcases isNilF_sound e2 ry with ⟨q', rfl⟩ | ⟨q', _, _, _, rfl⟩ <;> first | cases q | cases q' | skip
        all_goals (refine equal_of ?_; unfold Op.equalIn; simp [run_underlying hu] <;> simp_all)
      · intro op xo yo _
        rcases isNilF_sound e1 rx with ⟨q, rfl⟩ | ⟨q, _, _, _, rfl⟩ <;> rcases isNilF_sound e2 ry with ⟨q', rfl⟩ | ⟨q', _, _, _, rfl⟩ <;> exact guard_plain (by simp) (by simp) op xo yo
  · rename_i e hu
    cases hz : Nat.beq (sizeT C e) 0 with
    | true => simp [hz] at he
    | false =>
      simp only [hz, cond_false] at he
      have hz' := of_beq_false hz
      obtain ⟨i, hi⟩ : ∃ i, C.P.info? e = some i := by
        cases q : C.P.info? e with
        | none => exact absurd (by simp [sizeT, q]) hz'
        | some i => exact ⟨i, rfl⟩
      rw [sizeT_eq hi] at hz'
      unfold eqPtr at he
      split at he
      · rename_i a i' b' j'
        by_cases hab : a = b'
        · subst hab
          rw [beq_true rfl] at he
          simp only [cond_true, Option.some.injEq] at he
          unfold Rel at rx ry
          obtain ⟨p, o, hm, rfl⟩ := rx
          obtain ⟨p', o', hm', rfl⟩ := ry
          rw [hm] at hm'; cases hm'
          refine ⟨equal_of ?_, fun op xo yo _ => guard_plain (by simp) (by simp) op xo yo⟩
          unfold Op.equalIn
          simp [run_underlying hu, run_size hi, hz', sameAddr]
          subst he
          by_cases hij : i' = j'
          · subst hij; simp
          · rw [beq_false hij]; simp [hij]
        · rw [beq_false hab] at he; cases he
      · rcases eqNil_cases he with ⟨e1, e2⟩ | ⟨e1, e2⟩
        all_goals
          obtain ⟨a, rfl, ha⟩ := isNilP_sound e1 rx
          obtain ⟨a', rfl, hb⟩ := isNilP_sound e2 ry
          refine ⟨equal_of ?_, fun op xo yo _ => guard_plain (by simp) (by simp) op xo yo⟩
          unfold Op.equalIn
          cases a <;> cases a' <;> simp [run_underlying hu] at * <;> simp_all
  · rename_i ms hu
    unfold eqIfc at he
    split at he
    · unfold Rel at rx ry; subst rx; subst ry
      cases cx with
      | false => cases he
      | true =>
        simp at he; subst he
        refine ⟨equal_of (by unfold Op.equalIn; simp [run_underlying hu]), fun op xo yo hc => guard_const op xo yo (hc rfl)⟩
    · simp at he; subst he
      unfold Rel at rx ry; subst rx; obtain ⟨y, rfl, _⟩ := ry
      exact ⟨equal_of (by unfold Op.equalIn; simp [run_underlying hu]), fun op xo yo _ => guard_plain (by simp) (by simp) op xo yo⟩
    · simp at he; subst he
      unfold Rel at rx ry; subst ry; obtain ⟨y, rfl, _⟩ := rx
      exact ⟨equal_of (by unfold Op.equalIn; simp [run_underlying hu]), fun op xo yo _ => guard_plain (by simp) (by simp) op xo yo⟩
    · rename_i t1 x1 u1 y1
      unfold Rel at rx ry
      obtain ⟨p, rfl, r1⟩ := rx
      obtain ⟨q, rfl, r2⟩ := ry
      by_cases htu : t1 = u1
      · subst htu
        rw [beq_true rfl] at he
        simp only [cond_true] at he
        cases hi : C.P.info? t1 with
        | none => simp [hi] at he
        | some i =>
          cases hcm : i.comparable with
          | false => simp [hi, hcm] at he
          | true =>
            simp [hi, hcm] at he
            have := eqT_sound 8 t1 x1 y1 b p q he r1 r2 9999 (by omega)
            exact ⟨equal_of (by unfold Op.equalIn; simp [run_underlying hu, run_info C.P hi, hcm, this]), fun op xo yo _ => guard_plain (by simp) (by simp) op xo yo⟩
      · rw [beq_false htu] at he
        simp at he; subst he
        exact ⟨equal_of (by unfold Op.equalIn; simp [run_underlying hu, htu]), fun op xo yo _ => guard_plain (by simp) (by simp) op xo yo⟩
    · cases he
  · rename_i fs hu
    cases hg : C.P.eqGuardType C.P.depth t with
    | true => simp [hg] at he
    | false =>
      simp only [hg, cond_false] at he
      refine ⟨equal_of (eqT_sound 8 t x y b vx vy he rx ry _ (by omega)), fun op xo yo _ => guard_agg hg ?_ op xo yo⟩
      have he : eqT C (7 + 1) t x y = some b := he
      simp only [eqT, hu] at he
      cases hst : (C.P.stoodInHeld t || !knownAll C fs.toList) with
      | true => rw [hst] at he; cases he
      | false =>
        rw [hst] at he
        simp only [cond_false] at he
        split at he
        · obtain ⟨us, rfl, _⟩ := rel_agg rx; simp
        · cases he
  · rename_i hu
    refine ⟨equal_of (eqT_sound 8 t x y b vx vy he rx ry _ (by omega)), fun op xo yo _ => ?_⟩
    have he : eqT C (7 + 1) t x y = some b := he
    simp only [eqT, hu] at he
    split at he
    · rw [rel_bool rx, rel_bool ry]; exact guard_plain (by simp) (by simp) op xo yo
    · cases he
  · cases he
end
end
end Go.Abs
namespace Go.Abs
noncomputable section
open Go
section
variable {C : Cfg} {w : World} {F : Nat → Prop} {μ : Map} {h : Heap}
/-- an operation does what its abstract form says -/
def OpOk (C : Cfg) (w : World) (F : Nat → Prop) (μ : Map) (m : Sem Go.Next) (a : AV) (h' : Heap) : Prop :=
  ∃ nx w' μ', m.run C.P w = .ok nx w' ∧ ((∃ v, nx = .value v ∧ Rel w' F a μ' v) ∨ (nx = .skip ∧ Rel w' F a μ' undef)) ∧ Next w F μ w' F μ' ∧ HRel w' F μ' h'

theorem OpOk.val {s : Sem Value} {a : AV} (H : HRel w F μ h) (k : ∃ v, s.run C.P w = .ok v w ∧ Rel w F a μ v) : OpOk C w F μ (do pure (.value (← s))) a h := by
  obtain ⟨v, h1, h2⟩ := k
  exact ⟨.value v, w, μ, by simp [h1], .inl ⟨v, rfl, h2⟩, Next.refl w F μ, H⟩

theorem OpOk.pure {v : Value} {a : AV} (H : HRel w F μ h) (k : Rel w F a μ v) : OpOk C w F μ (Pure.pure (.value v)) a h :=
  ⟨.value v, w, μ, rfl, .inl ⟨v, rfl, k⟩, Next.refl w F μ, H⟩

theorem keep_some {h h' : Heap} {x : Option AV} {a : AV} (e : Abs.keep h x = some (a, h')) : x = some a ∧ h' = h := by
  unfold Abs.keep at e
  split at e
  · cases e; exact ⟨rfl, rfl⟩
  · cases e

/-! ### arithmetic -/
theorem binInt_sound {op : BinOp} {k k' : IntKind} {x y : Int} {a : AV} (t : TypeId) (e : binInt op k x k' y = some a) : ∃ v, (binOp op t (.int k x) (.int k' y)).run C.P w = .ok v w ∧ Rel w F a μ v := by
  unfold binInt at e
  split at e
  · exact shiftBin_sound t (.inl rfl) e
  · exact shiftBin_sound t (.inr rfl) e
  · rename_i h1 h2
    by_cases hk : k = k'
    · subst hk
      simp at e
      exact intBin_sound t h1 h2 e
    · simp [hk] at e

theorem guard_int {P : Program} {t : TypeId} (op : BinOp) (xo yo : Operand) (k k' : IntKind) (x y : Int) : (eqGuard op t xo yo (.int k x) (.int k' y)).run P w = .ok () w := guard_plain (by simp) (by simp) op xo yo
theorem guard_str {P : Program} {t : TypeId} (op : BinOp) (xo yo : Operand) (x y : ByteArray) : (eqGuard op t xo yo (.string x) (.string y)).run P w = .ok () w := guard_plain (by simp) (by simp) op xo yo

theorem run_eql_other {P : Program} {t : TypeId} {x y : Value} {b : Bool} (he : (Op.equal t x y).run P w = .ok b w) (hi : ∀ k n k' m, ¬ (x = .int k n ∧ y = .int k' m)) (hs : ∀ p q, ¬ (x = .string p ∧ y = .string q))
    (hf : ∀ k n k' m, ¬ (x = .float k n ∧ y = .float k' m)) (hc : ∀ k n m k' n' m', ¬ (x = .complex k n m ∧ y = .complex k' n' m')) :
    (binOp .eql t x y).run P w = .ok (.bool b) w ∧ (binOp .neq t x y).run P w = .ok (.bool !b) w := by
  have e1 : binOp .eql t x y = (do pure (.bool (← Op.equal t x y))) := by
    cases x <;> cases y <;> first | rfl | (exact absurd ⟨rfl, rfl⟩ (hi _ _ _ _)) | (exact absurd ⟨rfl, rfl⟩ (hs _ _)) | (exact absurd ⟨rfl, rfl⟩ (hf _ _ _ _)) | (exact absurd ⟨rfl, rfl⟩ (hc _ _ _ _ _ _))
  have e2 : binOp .neq t x y = (do pure (.bool (!(← Op.equal t x y)))) := by
    cases x <;> cases y <;> first | rfl | (exact absurd ⟨rfl, rfl⟩ (hi _ _ _ _)) | (exact absurd ⟨rfl, rfl⟩ (hs _ _)) | (exact absurd ⟨rfl, rfl⟩ (hf _ _ _ _)) | (exact absurd ⟨rfl, rfl⟩ (hc _ _ _ _ _ _))
  exact ⟨by rw [e1]; simp [he], by rw [e2]; simp [he]⟩

/-- a value other than a number or a string -/
def Plain (v : Value) : Prop := (∀ k n, v ≠ .int k n) ∧ (∀ s, v ≠ .string s) ∧ (∀ k n, v ≠ .float k n) ∧ (∀ k n m, v ≠ .complex k n m)

theorem plain_of {x : AV} {v : Value} (hd : x ≠ .dead) (hi : ∀ k n, x ≠ .int k n) (hs : ∀ s, x ≠ .str s) (r : Rel w F x μ v) : Plain v := by
  unfold Plain
  cases x <;> first | (exact absurd rfl hd) | (exact absurd rfl (hi _ _)) | (exact absurd rfl (hs _)) | (obtain ⟨_, _, rfl⟩ := slT_val r; simp; done) | skip
  all_goals unfold Rel at r
  all_goals first
    | (subst r; simp; done)
    | (obtain ⟨_, _, _, rfl⟩ := r; simp; done)
    | (obtain ⟨_, _, _, rfl, _⟩ := r; simp; done)
    | (obtain ⟨_, _, _, _, _, rfl, _⟩ := r; simp; done)
    | (obtain ⟨_, _, _, rfl, _⟩ := r; simp; done)
    | (obtain ⟨_, rfl, _⟩ := r; simp; done)

theorem binEq_sound {t : TypeId} {cx : Bool} {op : BinOp} {x y a : AV} {vx vy : Value} (xo yo : Operand) (hcx : cx = true → isConstO xo = true ∨ isConstO yo = true) (hp : Plain vx) (e : binEq C t cx op x y = some a)
    (rx : Rel w F x μ vx) (ry : Rel w F y μ vy) : ∃ v, (do eqGuard op t xo yo vx vy; binOp op t vx vy : Sem Value).run C.P w = .ok v w ∧ Rel w F a μ v := by
  unfold binEq at e
  obtain ⟨p1, p2, p3, p4⟩ := hp
  split at e
  · split at e
    · rename_i b he
      cases e
      obtain ⟨q1, q2⟩ := eqAV_sound he rx ry
      obtain ⟨q3, q4⟩ := run_eql_other q1 (fun k n _ _ h => p1 k n h.1) (fun s _ h => p2 s h.1) (fun k n _ _ h => p3 k n h.1) (fun k n m _ _ _ h => p4 k n m h.1)
      exact ⟨_, by simp [q2 .eql xo yo hcx, q3], mk_bool _⟩
    · cases e
  · split at e
    · rename_i b he
      cases e
      obtain ⟨q1, q2⟩ := eqAV_sound he rx ry
      obtain ⟨q3, q4⟩ := run_eql_other q1 (fun k n _ _ h => p1 k n h.1) (fun s _ h => p2 s h.1) (fun k n _ _ h => p3 k n h.1) (fun k n m _ _ _ h => p4 k n m h.1)
      exact ⟨_, by simp [q2 .neq xo yo hcx, q4], mk_bool _⟩
    · cases e
  · cases e

theorem binA_sound {t : TypeId} {cx : Bool} {op : BinOp} {x y a : AV} {vx vy : Value} (xo yo : Operand) (hcx : cx = true → isConstO xo = true ∨ isConstO yo = true) (e : binA C t cx op x y = some a)
    (rx : Rel w F x μ vx) (ry : Rel w F y μ vy) : ∃ v, (do eqGuard op t xo yo vx vy; binOp op t vx vy : Sem Value).run C.P w = .ok v w ∧ Rel w F a μ v := by
  unfold binA at e
  split at e
  · split at e
    · rw [rel_int rx, rel_int ry]
      obtain ⟨v, h1, h2⟩ := binInt_sound (w := w) (F := F) (μ := μ) t e
      exact ⟨v, by rw [Sem.run_bind, guard_int]; exact h1, h2⟩
    · cases e
  · split at e
    · rw [rel_str rx, rel_str ry]
      obtain ⟨v, h1, h2⟩ := strBin_sound (P := C.P) (w := w) (F := F) (μ := μ) t e
      exact ⟨v, by rw [Sem.run_bind, guard_str]; exact h1, h2⟩
    · cases e
  · cases e
  · rename_i h1 h2 h3
    exact binEq_sound xo yo hcx (plain_of h3 h1 h2 rx) e rx ry

theorem unA_sound {op : UnOp} {x a : AV} {v : Value} (e : unA op x = some a) (r : Rel w F x μ v) : ∃ u, (Op.unary op v).run C.P w = .ok u w ∧ Rel w F a μ u := by
  unfold unA at e
  split at e
  · cases e; rw [rel_int r]; exact ⟨_, rfl, by rw [wrapF_eq]; exact mk_int _ _⟩
  · cases e; rw [rel_int r]; exact ⟨_, rfl, mk_int _ _⟩
  · cases e; rw [rel_bool r]; exact ⟨_, rfl, mk_bool _⟩
  · cases e

/-! ### other quiet operations -/
theorem pick_sound {c x y a : AV} {vc vx vy : Value} (e : opPick c x y = some a) (rc : Rel w F c μ vc) (rx : Rel w F x μ vx) (ry : Rel w F y μ vy) :
    ∃ u, (do pure (if ← asBool vc then vx else vy) : Sem Value).run C.P w = .ok u w ∧ Rel w F a μ u := by
  unfold opPick at e
  split at e
  · rename_i b
    cases e
    rw [rel_bool rc]
    cases b
    · exact ⟨vy, by simp [asBool], ry⟩
    · exact ⟨vx, by simp [asBool], rx⟩
  · cases e

theorem fieldAddr_sound {t : TypeId} {x a : AV} {v : Value} {f : Nat} (e : opFieldAddr C t x f = some a) (r : Rel w F x μ v) : ∃ u, (Instr.fieldAt t v f).run C.P w = .ok u w ∧ Rel w F a μ u := by
  unfold opFieldAddr at e
  split at e
  · rename_i fs hu
    split at e
    · rename_i fd hf
      cases hz : Nat.beq (sizeT C fd.type) 0 with
      | true => simp [hz] at e
      | false =>
        simp only [hz, cond_false] at e
        have hz' := of_beq_false hz
        obtain ⟨i, hi⟩ : ∃ i, C.P.info? fd.type = some i := by
          cases q : C.P.info? fd.type with
          | none => exact absurd (by simp [sizeT, q]) hz'
          | some i => exact ⟨i, rfl⟩
        rw [sizeT_eq hi] at hz'
        unfold addP at e
        split at e
        · cases e
          unfold Rel at r
          obtain ⟨b, o, hm, rfl⟩ := r
          refine ⟨.pointer (some ⟨b, o + (_ + fd.offset), none⟩), ?_, by unfold Rel; exact ⟨b, o, hm, rfl⟩⟩
          simp [Instr.fieldAt, run_underlying hu, hf, Instr.sureAddr, fieldPlace, run_size hi, hz', addr_add, Nat.add_assoc]
        · cases e
          unfold Rel at r
          obtain ⟨b, o, hm, rfl, hc⟩ := r
          refine ⟨.pointer (some ⟨b, o + (_ + fd.offset), none⟩), ?_, by unfold Rel; exact ⟨b, o, hm, rfl, hc⟩⟩
          simp [Instr.fieldAt, run_underlying hu, hf, Instr.sureAddr, fieldPlace, run_size hi, hz', addr_add, Nat.add_assoc]
        · cases e
    · cases e
  · cases e

theorem natOf_sound {x : AV} {n : Nat} {v : Value} (e : natOf x = some n) (r : Rel w F x μ v) : ∃ k, v = .int k n := by
  unfold natOf at e
  split at e
  · cases e; exact ⟨_, rel_int r⟩
  · cases e

theorem knownT_size {e : TypeId} (hk : knownT C e = true) : ∃ i, C.P.info? e = some i ∧ sizeT C e = i.size := by
  unfold knownT at hk
  obtain ⟨d, hd⟩ := Option.isSome_iff_exists.1 hk
  obtain ⟨i, hi⟩ := underlying_info hd
  exact ⟨i, hi, sizeT_eq hi⟩

theorem indexAddr_sound {t : TypeId} {x ix a : AV} {v vi : Value} (e : opIndexAddr C t x ix = some a) (r : Rel w F x μ v) (ri : Rel w F ix μ vi) : ∃ u, (Instr.indexAt t v vi).run C.P w = .ok u w ∧ Rel w F a μ u := by
  unfold opIndexAddr at e
  split at e
  · cases e
  · rename_i i hn
    obtain ⟨k, rfl⟩ := natOf_sound hn ri
    split at e
    · rename_i n el hu
      cases hb : (Nat.ble (Nat.succ i) n && knownT C el) with
      | false => simp only [hb, cond_false] at e; cases e
      | true =>
        simp only [hb, cond_true] at e
        simp only [Bool.and_eq_true] at hb
        have hlt : i < n := Nat.le_of_ble_eq_true hb.1
        obtain ⟨inf, hi, hsz⟩ := knownT_size hb.2
        rw [hsz] at e
        unfold addP at e
        split at e
        · cases e
          unfold Rel at r
          obtain ⟨b, o, hm, rfl⟩ := r
          refine ⟨.pointer (some ⟨b, o + (_ + i * inf.size), none⟩), ?_, by unfold Rel; exact ⟨b, o, hm, rfl⟩⟩
          simp [Instr.indexAt, asIntOf, run_underlying hu, Instr.sureAddr, run_size hi, hlt, addr_add, Nat.add_assoc]
        · cases e
          unfold Rel at r
          obtain ⟨b, o, hm, rfl, hc⟩ := r
          refine ⟨.pointer (some ⟨b, o + (_ + i * inf.size), none⟩), ?_, by unfold Rel; exact ⟨b, o, hm, rfl, hc⟩⟩
          simp [Instr.indexAt, asIntOf, run_underlying hu, Instr.sureAddr, run_size hi, hlt, addr_add, Nat.add_assoc]
        · cases e
    · rename_i el hu
      split at e
      · rename_i id off es len cap ex
        cases hb : (Nat.ble (Nat.succ i) len && knownT C el) with
        | false => simp only [hb, cond_false] at e; cases e
        | true =>
          simp only [hb, cond_true] at e
          simp only [Bool.and_eq_true] at hb
          have hlt : i < len := Nat.le_of_ble_eq_true hb.1
          obtain ⟨inf, hi, hsz⟩ := knownT_size hb.2
          rw [hsz] at e
          cases e
          unfold Rel at r
          obtain ⟨b, o, ad, c, hm, rfl, h1, h2, h3, h4⟩ := r
          obtain ⟨rfl, _⟩ := h4 (by omega)
          refine ⟨.pointer (some ⟨b, o + (off + i * inf.size), none⟩), ?_, by unfold Rel; exact ⟨b, o, hm, rfl⟩⟩
          simp [Instr.indexAt, asIntOf, run_underlying hu, run_size hi, hlt, addr_add, Nat.add_assoc]
      · rename_i cs off len cap ex
        cases hb : (Nat.ble (Nat.succ i) len && knownT C el) with
        | false => simp only [hb, cond_false] at e; cases e
        | true =>
          simp only [hb, cond_true] at e
          simp only [Bool.and_eq_true] at hb
          have hlt : i < len := Nat.le_of_ble_eq_true hb.1
          obtain ⟨inf, hi, hsz⟩ := knownT_size hb.2
          rw [hsz] at e
          cases e
          unfold Rel at r
          obtain ⟨b, o, ad, c, hF, rfl, h1, h2, h3, h4, h5⟩ := r
          obtain rfl := h4 (by omega)
          refine ⟨.pointer (some ⟨b, o + (off + i * inf.size), none⟩), ?_, by unfold Rel; exact ⟨b, o, hF, rfl, h5⟩⟩
          simp [Instr.indexAt, asIntOf, run_underlying hu, run_size hi, hlt, addr_add, Nat.add_assoc]
      · rename_i pt l ex
        cases hb : (Nat.ble (Nat.succ i) l.length && (knownT C el && Nat.beq (sizeT C el) (width pt))) with
        | false => simp only [hb, cond_false] at e; cases e
        | true =>
          simp only [hb, cond_true] at e
          simp only [Bool.and_eq_true] at hb
          have hlt : i < l.length := Nat.le_of_ble_eq_true hb.1
          obtain ⟨inf, hi, hsz⟩ := knownT_size hb.2.1
          have hw : inf.size = width pt := by rw [← hsz]; exact of_beq hb.2.2
          cases e
          rcases inv_slT r with ⟨h0, _⟩ | ⟨b, o, ad, c, hF, rfl, h1, h2, h3, h4⟩
          · subst h0; simp at hlt
          · obtain rfl := h3 (by omega)
            refine ⟨.pointer (some ⟨b, o + i * width pt + 0, none⟩), ?_, by unfold Rel; exact ⟨b, o + i * width pt, hF, rfl, h4 i _ (elAt_get hlt)⟩⟩
            simp [Instr.indexAt, asIntOf, run_underlying hu, run_size hi, hlt, addr_add, hw]
      · cases e
    · cases e
end
end
end Go.Abs
