/-
  The abstract machine: definitions. It runs closed calls of a program of the model, with block numbers by name; nothing is proved here.
-/
import Derived.RangeFuncRecord
import Derived.OrdersIn
import Derived.Below
namespace Go.Ex

/-- Finite maps from numbers. -/
inductive Tr (α : Type) where
  | lf : Tr α
  | nd : Tr α → Option α → Tr α → Tr α

namespace Tr
variable {α : Type}
def get : Tr α → Nat → Option α
  | .lf, _ => none
  | .nd l v r, n => bif Nat.beq n 0 then v else bif Nat.beq (n % 2) 1 then l.get (n / 2) else r.get (n / 2 - 1)
def setF : Nat → Tr α → Nat → Option α → Tr α
  | 0, t, _, _ => t
  | d + 1, .lf, n, x =>
    bif Nat.beq n 0 then .nd .lf x .lf else bif Nat.beq (n % 2) 1 then .nd (setF d .lf (n / 2) x) none .lf else .nd .lf none (setF d .lf (n / 2 - 1) x)
  | d + 1, .nd l v r, n, x =>
    bif Nat.beq n 0 then .nd l x r else bif Nat.beq (n % 2) 1 then .nd (setF d l (n / 2) x) v r else .nd l v (setF d r (n / 2 - 1) x)
def set (t : Tr α) (n : Nat) (x : Option α) : Tr α := setF (n + 1) t n x
end Tr

/-- Values, with blocks by name. A slice's capacity may be open (none): then it reaches to its block's end. 'sle': a slice of no elements that is not nil. 'junk': whatever. -/
inductive AV where
  | junk
  | bool (b : Bool)
  | int (k : IntKind) (n : Int)
  | flt (k : FloatKind) (bits : Nat)
  | str (s : List Nat)
  | nilp
  | ptr (id off : Nat)
  | nils
  | sl (id off len : Nat) (cap : Option Nat) (es : Nat)
  | sle
  | nilm
  | map (id : Nat)
  | fn (f : FuncId) (first captured : List AV)
  | yl (id : Nat)
  | nilf
  | iface (t : TypeId) (v : AV)
  | nili
  | agg (l : List AV)
  | tup (l : List AV)
  deriving Inhabited

def AV.cells : AV → List AV
  | .agg l => l
  | v => [v]

inductive Blk where
  | cells (w : Bool) (opn : Bool) (l : List AV)
  | map (w : Bool) (es : List (AV × AV × Nat)) (clock : Nat)
  | siter (s : List Nat) (pos : Nat)
  | loop (st : LoopState) (pend : Option Code) (fn : FuncId) (sz : Nat) (tm : Tr AV) (ps : List Tmp) (assign body : Code) (df : Nat)
  | dfr

inductive AI where
  | code (c : Code)
  | inBlock (id : Nat)
  | inLoop (c : Code)
  | inScope (c : Code)
  | inReg (ops : Array Oper) (k : Nat) (rest : List Oper)
  | inRF (id : Nat)
  | endRF (id : Nat)
  | begR

structure Fr where
  fn : FuncId
  sz : Nat
  tm : Tr AV
  todo : List AI
  df : List Nat
  rd : Option Nat
  ret : Bool

/-- lb, wl: the names below lb of blocks that were turned. -/
structure St where
  fr : Fr
  cs : List Fr
  hp : Tr Blk
  nx : Nat
  lb : Nat
  wl : List Nat

inductive Out where
  | go (s : St)
  | done (v : AV) (s : St)
  | draw (ops : Array Oper) (k : List AI)
  | fail (why : String)

/-- Functions that are known without their bodies. -/
inductive ExtK where
  | count | indexByte | same | makeNoZero | compare
  deriving DecidableEq

/-- What an operation gives: a value, the blocks that turn, the next name. -/
structure R where
  v : AV
  dl : List (Nat × Option Blk)
  nx : Nat

def app : List (Nat × Option Blk) → Tr Blk → Tr Blk
  | [], hp => hp
  | (i, b) :: r, hp => app r (hp.set i b)

def logs (lb : Nat) : List (Nat × Option Blk) → List Nat → List Nat
  | [], wl => wl
  | (i, _) :: r, wl => bif Nat.blt i lb then i :: logs lb r wl else logs lb r wl

def rv (nx : Nat) (v : AV) : Option R := some ⟨v, [], nx⟩
def rvO (nx : Nat) : Option AV → Option R
  | some v => some ⟨v, [], nx⟩
  | none => none
/-- A new block and a value that names it. -/
def rnew (nx : Nat) (v : AV) (b : Blk) : Option R := some ⟨v, [(nx, some b)], nx + 1⟩
/-- A block that turns. -/
def rset (nx : Nat) (v : AV) (id : Nat) (b : Blk) : Option R := some ⟨v, [(id, some b)], nx⟩
def unit : AV := .tup []

/-! ### Reading constants -/
def ofBA (b : ByteArray) : List Nat := b.data.toList.map UInt8.toNat

/-- A value of one cell. -/
def ofCell : Value → Option AV
  | .bool b => some (.bool b)
  | .int k n => some (.int k n)
  | .float k b => some (.flt k b)
  | .string s => some (.str (ofBA s))
  | .pointer none => some .nilp
  | .slice none 0 0 => some .nils
  | .map none => some .nilm
  | .nilFunc => some .nilf
  | .nilIface => some .nili
  | _ => none
def ofCells : List Value → Option (List AV)
  | [] => some []
  | v :: l => match ofCell v, ofCells l with
    | some a, some r => some (a :: r)
    | _, _ => none
def ofVal : Value → Option AV
  | .agg cs => match ofCells cs.toList with
    | some l => some (.agg l)
    | none => none
  | v => ofCell v

section
variable (P : Program) (G : Nat) (X : FuncId → Option ExtK)

def slot (tm : Tr AV) (t : Nat) : AV :=
  match tm.get t with
  | some v => v
  | none => .junk

def ev (tm : Tr AV) : Operand → AV
  | .tmp t => slot tm t
  | .const v => match ofVal v with
    | some a => a
    | none => .junk
  | .global g => bif Nat.blt g G then .ptr g 0 else .junk
  | .func f => .fn f [] []

/-! ### Lists of cells -/
def takeL : Nat → List AV → Option (List AV)
  | 0, _ => some []
  | _ + 1, [] => none
  | n + 1, x :: l => match takeL n l with
    | some r => some (x :: r)
    | none => none
def dropL : Nat → List AV → List AV
  | 0, l => l
  | _ + 1, [] => []
  | n + 1, _ :: l => dropL n l
def sub (l : List AV) (off n : Nat) : Option (List AV) := takeL n (dropL off l)
/-- The cells from the front, written over. -/
def putF : List AV → List AV → Option (List AV)
  | l, [] => some l
  | [], _ :: _ => none
  | _ :: l, x :: xs => match putF l xs with
    | some r => some (x :: r)
    | none => none
def putL : Nat → List AV → List AV → Option (List AV)
  | 0, l, xs => putF l xs
  | _ + 1, [], [] => some []
  | _ + 1, [], _ :: _ => none
  | n + 1, y :: l, xs => match putL n l xs with
    | some r => some (y :: r)
    | none => none

def isAggB (t : TypeId) : Option Bool :=
  match P.underlying t with
  | some (.struct _) | some (.array _ _) => some true
  | some _ => some false
  | none => none
def sizeB (t : TypeId) : Option Nat := match P.info? t with
  | some i => some i.size
  | none => none
def bytesB (t : TypeId) : Option Nat := match P.info? t with
  | some i => some i.bytes
  | none => none
def zeroA (t : TypeId) : Option AV := match P.info? t with
  | some i => match i.zero with
    | some z => ofVal z
    | none => none
  | none => none

def repl : Nat → List AV → List AV
  | 0, _ => []
  | n + 1, z => z ++ repl n z

/-- A part of cells as a value of type t. -/
def partA (t : TypeId) (l : List AV) (off : Nat) : Option AV :=
  match isAggB P t, sizeB P t with
  | some true, some n => match sub l off n with
    | some r => some (.agg r)
    | none => none
  | some false, some _ => match dropL off l with
    | v :: _ => some v
    | [] => none
  | _, _ => none

def loadA (hp : Tr Blk) (t : TypeId) : AV → Option AV
  | .ptr id off => match hp.get id with
    | some (.cells _ _ l) => partA P t l off
    | _ => none
  | _ => none

/-- Cells written over, from an offset on. -/
def putB (hp : Tr Blk) (nx : Nat) (v : AV) (id off : Nat) (vs : List AV) : Option R :=
  match hp.get id with
  | some (.cells true o l) => match putL off l vs with
    | some l' => rset nx v id (.cells true o l')
    | none => none
  | _ => none

/-- The cells of a value that is known; none of junk. -/
def cellsK : AV → Option (List AV)
  | .junk => none
  | .tup _ => none
  | .agg l => some l
  | v => some [v]

def doStore (hp : Tr Blk) (nx : Nat) (t : TypeId) (a v : AV) : Option R :=
  match a, sizeB P t, cellsK v with
  | .ptr id off, some n, some cs => bif Nat.beq cs.length n then putB hp nx unit id off cs else none
  | _, _, _ => none

/-! ### Operations on numbers and strings -/
def fits : IntKind → Int → Bool
  | .i64, .ofNat m => Nat.blt m 9223372036854775808
  | .i64, .negSucc m => Nat.blt m 9223372036854775808
  | .u8, .ofNat m => Nat.blt m 256
  | .u64, .ofNat m => Nat.blt m 18446744073709551616
  | .i8, .ofNat m => Nat.blt m 128
  | .i8, .negSucc m => Nat.blt m 128
  | .i32, .ofNat m => Nat.blt m 2147483648
  | .i32, .negSucc m => Nat.blt m 2147483648
  | .u32, .ofNat m => Nat.blt m 4294967296
  | _, _ => false
def wrapA (k : IntKind) (n : Int) : Int := bif fits k n then n else k.wrap n

def ltI : Int → Int → Bool
  | .ofNat a, .ofNat b => Nat.blt a b
  | .ofNat _, .negSucc _ => false
  | .negSucc _, .ofNat _ => true
  | .negSucc a, .negSucc b => Nat.blt b a
def eqI : Int → Int → Bool
  | .ofNat a, .ofNat b => Nat.beq a b
  | .negSucc a, .negSucc b => Nat.beq a b
  | _, _ => false

def eqS : List Nat → List Nat → Bool
  | [], [] => true
  | a :: x, b :: y => bif Nat.beq a b then eqS x y else false
  | _, _ => false
def ltS : List Nat → List Nat → Bool
  | _, [] => false
  | [], _ :: _ => true
  | a :: x, b :: y => bif Nat.beq a b then ltS x y else Nat.blt a b

def eqK (a b : IntKind) : Bool := match a, b with
  | .i8, .i8 | .i16, .i16 | .i32, .i32 | .i64, .i64 | .u8, .u8 | .u16, .u16 | .u32, .u32 | .u64, .u64 => true
  | _, _ => false

def bitsA (op : BinOp) (k : IntKind) (x y : Int) : Option AV :=
  match op with
  | .and => some (.int k (k.wrap ((BitVec.ofInt k.bits x &&& BitVec.ofInt k.bits y).toNat)))
  | .or => some (.int k (k.wrap ((BitVec.ofInt k.bits x ||| BitVec.ofInt k.bits y).toNat)))
  | .xor => some (.int k (k.wrap ((BitVec.ofInt k.bits x ^^^ BitVec.ofInt k.bits y).toNat)))
  | .andNot => some (.int k (k.wrap ((BitVec.ofInt k.bits x &&& ~~~ BitVec.ofInt k.bits y).toNat)))
  | _ => none

def intA (op : BinOp) (k : IntKind) (x y : Int) : Option AV :=
  match op with
  | .add => some (.int k (wrapA k (x + y)))
  | .sub => some (.int k (wrapA k (x - y)))
  | .mul => some (.int k (wrapA k (x * y)))
  | .quo => bif eqI y 0 then none else some (.int k (wrapA k (x.tdiv y)))
  | .rem => bif eqI y 0 then none else some (.int k (x.tmod y))
  | .eql => some (.bool (eqI x y))
  | .neq => some (.bool (!eqI x y))
  | .lss => some (.bool (ltI x y))
  | .leq => some (.bool (!ltI y x))
  | .gtr => some (.bool (ltI y x))
  | .geq => some (.bool (!ltI x y))
  | op => bitsA op k x y

def strA (op : BinOp) (x y : List Nat) : Option AV :=
  match op with
  | .add => bif Nat.blt (x.length + y.length) 1000000 then some (.str (x ++ y)) else none
  | .eql => some (.bool (eqS x y))
  | .neq => some (.bool (!eqS x y))
  | .lss => some (.bool (ltS x y))
  | .leq => some (.bool (ltS x y || eqS x y))
  | .gtr => some (.bool (!(ltS x y || eqS x y)))
  | .geq => some (.bool (!ltS x y))
  | _ => none

def shiftA (op : BinOp) (k : IntKind) (x y : Int) : Option AV :=
  match y with
  | .negSucc _ => none
  | .ofNat n => match op with
    | .shl => some (.int k (k.wrap (x * 2 ^ (min n k.bits))))
    | .shr => some (.int k (x.fdiv (2 ^ (min n k.bits))))
    | _ => none

/-- Equality of two values of a plain type (true, false; none: not decided here). -/
def eqP (d : TypeDesc) (x y : AV) : Option Bool :=
  match d, x, y with
  | .bool, .bool a, .bool b => some (a == b)
  | .int _, .int k a, .int k' b => bif eqK k k' then some (eqI a b) else none
  | .string, .str a, .str b => some (eqS a b)
  | .pointer _, .nilp, .nilp => some true
  | .pointer _, .nilp, .ptr _ _ => some false
  | .pointer _, .ptr _ _, .nilp => some false
  | .slice _, .nils, .nils => some true
  | .slice _, .nils, .sl .. => some false
  | .slice _, .sl .., .nils => some false
  | .slice _, .nils, .sle => some false
  | .slice _, .sle, .nils => some false
  | .map _ _, .nilm, .nilm => some true
  | .map _ _, .nilm, .map _ => some false
  | .map _ _, .map _, .nilm => some false
  | .func _ _ _, .nilf, .nilf => some true
  | .func _ _ _, .nilf, .fn .. => some false
  | .func _ _ _, .fn .., .nilf => some false
  | .interface _, .nili, .nili => some true
  | .interface _, .nili, .iface _ _ => some false
  | .interface _, .iface _ _, .nili => some false
  | _, _, _ => none
def eqV (t : TypeId) (x y : AV) : Option Bool :=
  match P.underlying t, x, y with
  | some (.interface _), .iface tx vx, .iface ty vy =>
    bif Nat.beq tx ty then
      match P.info? tx, P.underlying tx with
      | some i, some d => bif i.comparable then eqP d vx vy else none
      | _, _ => none
    else some false
  | some d, x, y => eqP d x y
  | none, _, _ => none

def isConstB : Operand → Bool
  | .const _ => true
  | _ => false
/-- The model's look ahead of '==' and '!=' lets the two by. -/
def guardA (op : BinOp) (x y : Operand) (a b : AV) : Bool :=
  match op with
  | .eql => match a, b with
    | .nili, .nili => isConstB x || isConstB y
    | _, _ => true
  | .neq => match a, b with
    | .nili, .nili => isConstB x || isConstB y
    | _, _ => true
  | _ => true

def binA (op : BinOp) (t : TypeId) (x y : AV) : Option AV :=
  match x, y with
  | .int k a, .int k' b => match op with
    | .shl => shiftA .shl k a b
    | .shr => shiftA .shr k a b
    | op => bif eqK k k' then intA op k a b else none
  | .str a, .str b => match op with
    | .shl | .shr => none
    | op => strA op a b
  | x, y => match op with
    | .eql => match eqV P t x y with
      | some b => some (.bool b)
      | none => none
    | .neq => match eqV P t x y with
      | some b => some (.bool (!b))
      | none => none
    | _ => none

def unA (op : UnOp) (x : AV) : Option AV :=
  match op, x with
  | .not, .bool b => some (.bool (!b))
  | .neg, .int k n => some (.int k (wrapA k (0 - n)))
  | _, _ => none

/-! ### Memory -/
def bound (v : AV) (top : Nat) : Option Nat :=
  match v with
  | .int _ (.ofNat n) => bif Nat.ble n top then some n else none
  | _ => none
def boundO (v : Option AV) (top dflt : Nat) : Option Nat :=
  match v with
  | some v => bound v top
  | none => some dflt

/-- The upper bound, where there may be a third one. -/
def boundH (hi mx : Option AV) (m len : Nat) : Option Nat :=
  match hi, mx with
  | none, some _ => none
  | none, none => some len
  | some v, _ => bound v m

/-- s[lo:hi] of a string. -/
def sliceStr (s : List Nat) (lo hi : Option AV) : Option AV :=
  match boundO hi s.length s.length with
  | some h => match boundO lo h 0 with
    | some l => some (.str ((s.take h).drop l))
    | none => none
  | none => none
/-- s[lo:hi:mx] of a slice whose capacity is known. -/
def sliceCap (id off len cap es : Nat) (lo hi mx : Option AV) : Option AV :=
  match boundO mx cap cap with
  | some m =>
    match boundH hi mx m len with
    | some h => match boundO lo h 0 with
      | some l => some (.sl id (bif Nat.beq m l then off else off + l * es) (h - l) (some (m - l)) es)
      | none => none
    | none => none
  | none => none
/-- s[lo:hi] of a slice whose capacity is open: 'known' elements are there at least. -/
def sliceOpn (id off len known es : Nat) (lo hi : Option AV) : Option AV :=
  match boundO hi known len with
  | some h => match boundO lo h 0 with
    | some l =>
      bif Nat.beq l 0 then some (.sl id off h none es)
      else bif Nat.blt l known then some (.sl id (off + l * es) (h - l) none es)
      else bif Nat.beq l h then some .sle else none
    | none => none
  | none => none

def doSlice (hp : Tr Blk) (nx : Nat) (t : TypeId) (x : AV) (lo hi mx : Option AV) : Option R :=
  match P.underlying t with
  | some (.array n el) => match x, sizeB P el with
    | .ptr id off, some (s + 1) => rvO nx (sliceCap id off n n (s + 1) lo hi mx)
    | _, _ => none
  | some .string => match x, mx with
    | .str s, none => rvO nx (sliceStr s lo hi)
    | _, _ => none
  | some (.slice el) => match sizeB P el, x with
    | some _, .nils => match mx, boundO hi 0 0, boundO lo 0 0 with
      | none, some _, some _ => rv nx .nils
      | _, _, _ => none
    | some _, .sle => match mx, boundO hi 0 0, boundO lo 0 0 with
      | none, some _, some _ => rv nx .sle
      | _, _, _ => none
    | some s, .sl id off len (some cap) es => bif Nat.beq s es then rvO nx (sliceCap id off len cap es lo hi mx) else none
    | some s, .sl id off len none es => bif Nat.beq s es && Nat.blt 0 es then match mx, hp.get id with
      | none, some (.cells _ _ cs) => rvO nx (sliceOpn id off len ((cs.length - off) / es) es lo hi)
      | _, _ => none
      else none
    | _, _ => none
  | _ => none

def fieldF (s : TypeId) (f : Nat) : Option Field :=
  match P.underlying s with
  | some (.struct fs) => fs.toList[f]?
  | _ => none

def doFieldAddr (nx : Nat) (s : TypeId) (x : AV) (f : Nat) : Option R :=
  match fieldF P s f, x with
  | some fd, .ptr id off => match sizeB P fd.type with
    | some (_ + 1) => rv nx (.ptr id (off + fd.offset))
    | _ => none
  | _, _ => none

def doField (nx : Nat) (s : TypeId) (x : AV) (f : Nat) : Option R :=
  match fieldF P s f, x with
  | some fd, .agg l => rvO nx (partA P fd.type l fd.offset)
  | _, _ => none

def doIndexAddr (nx : Nat) (t : TypeId) (x i : AV) : Option R :=
  match i with
  | .int _ (.ofNat n) => match P.underlying t with
    | some (.slice e) => match x, sizeB P e with
      | .sl id off len _ _, some s => bif Nat.blt n len then rv nx (.ptr id (off + n * s)) else none
      | _, _ => none
    | some (.array len e) => match x, sizeB P e with
      | .ptr id off, some s => bif Nat.blt n len then rv nx (.ptr id (off + n * s)) else none
      | _, _ => none
    | _ => none
  | _ => none

def nthS : List Nat → Nat → Option Nat
  | [], _ => none
  | x :: _, 0 => some x
  | _ :: l, n + 1 => nthS l n

def doIndex (nx : Nat) (t : TypeId) (x i : AV) : Option R :=
  match i with
  | .int _ (.ofNat n) => match P.underlying t with
    | some .string => match x with
      | .str s => match nthS s n with
        | some b => rv nx (.int .u8 (.ofNat b))
        | none => none
      | _ => none
    | some (.array len e) => match x, sizeB P e with
      | .agg l, some s => bif Nat.blt n len then rvO nx (partA P e l (n * s)) else none
      | _, _ => none
    | _ => none
  | _ => none

/-- Building a struct or an array: parts at places. -/
def fillA (place : Nat → Option (Nat × Nat)) : List (Nat × AV) → List AV → Option (List AV)
  | [], cells => some cells
  | (i, v) :: rest, cells =>
    match place i, cellsK v with
    | some (off, size), some cs =>
      bif Nat.beq cs.length size && Nat.ble (off + size) cells.length then match putL off cells cs with
        | some cells => fillA place rest cells
        | none => none
      else none
    | _, _ => none

def placeS (fs : Array Field) (i : Nat) : Option (Nat × Nat) :=
  match fs.toList[i]? with
  | some f => match sizeB P f.type with
    | some s => some (f.offset, s)
    | none => none
  | none => none
def placeA (s i : Nat) : Option (Nat × Nat) := some (i * s, s)

/-- All parts' sizes are known. -/
def sized (fs : Array Field) : Bool := fs.toList.all fun f => (sizeB P f.type).isSome

def doBuild (nx : Nat) (t : TypeId) (parts : List (Nat × AV)) : Option R :=
  match zeroA P t, P.underlying t with
  | some z, some (.struct fs) => bif sized P fs then match fillA (placeS P fs) parts z.cells with
      | some l => rv nx (.agg l)
      | none => none
    else none
  | some z, some (.array _ e) => match sizeB P e with
    | some s => match fillA (placeA s) parts z.cells with
      | some l => rv nx (.agg l)
      | none => none
    | none => none
  | _, _ => none

def doBuildSlice (nx : Nat) (t : TypeId) (len : Nat) (parts : List (Nat × AV)) : Option R :=
  match P.underlying t with
  | some (.slice el) => match sizeB P el, zeroA P el with
    | some s, some z => bif Nat.beq s 0 || (!Nat.beq z.cells.length s) || Nat.blt 1000000 (len * s) then none else
      match fillA (placeA s) parts (repl len z.cells) with
      | some l => rnew nx (.sl nx 0 len (some len) s) (.cells true false l)
      | none => none
    | _, _ => none
  | _ => none

def doAlloc (nx : Nat) (t : TypeId) : Option R :=
  match zeroA P t with
  | some z => rnew nx (.ptr nx 0) (.cells true false z.cells)
  | none => none
def doBox (nx : Nat) (v : AV) : Option R :=
  match cellsK v with
  | some cs => rnew nx (.ptr nx 0) (.cells true false cs)
  | none => none
def doMakeSlice (nx : Nat) (t : TypeId) (l c : AV) : Option R :=
  match P.underlying t, l, c with
  | some (.slice el), .int _ (.ofNat l), .int _ (.ofNat c) => match sizeB P el, bytesB P el, zeroA P el with
    | some s, some b, some z => bif Nat.beq s 0 || (!Nat.beq z.cells.length s) || Nat.blt c l || Nat.blt 1048576 (b * c) || Nat.blt 1048576 c then none else
      rnew nx (.sl nx 0 l (some c) s) (.cells true false (repl c z.cells))
    | _, _, _ => none
  | _, _, _ => none
def doMakeMap (nx : Nat) (t : TypeId) (r : Option AV) : Option R :=
  match P.underlying t, r with
  | some (.map _ _), none => rnew nx (.map nx) (.map true [] 0)
  | some (.map _ _), some (.int _ _) => rnew nx (.map nx) (.map true [] 0)
  | _, _ => none

/-! ### Maps -/
def keyEq (kind : TypeDesc) (a b : AV) : Option Bool :=
  match kind, a, b with
  | .int _, .int k x, .int k' y => bif eqK k k' then some (eqI x y) else none
  | .string, .str x, .str y => some (eqS x y)
  | .bool, .bool x, .bool y => some (x == y)
  | _, _, _ => none
/-- The entry of a key: its place and value. -/
def findA (kind : TypeDesc) (k : AV) : List (AV × AV × Nat) → Nat → Option (Option (Nat × AV × Nat))
  | [], _ => some none
  | (k', v, b) :: es, i => match keyEq kind k k' with
    | some true => some (some (i, v, b))
    | some false => findA kind k es (i + 1)
    | none => none
def plainKey (kind : TypeDesc) (k : AV) : Bool :=
  match kind, k with
  | .int _, .int _ _ => true
  | .string, .str _ => true
  | .bool, .bool _ => true
  | _, _ => false
def setE : Nat → (AV × AV × Nat → AV × AV × Nat) → List (AV × AV × Nat) → List (AV × AV × Nat)
  | _, _, [] => []
  | 0, f, e :: es => f e :: es
  | n + 1, f, e :: es => e :: setE n f es
def delE : Nat → List (AV × AV × Nat) → List (AV × AV × Nat)
  | _, [] => []
  | 0, _ :: es => es
  | n + 1, e :: es => e :: delE n es
def bornE (b : Nat) : List (AV × AV × Nat) → Nat → Option Nat
  | [], _ => none
  | e :: es, i => bif Nat.beq e.2.2 b then some i else bornE b es (i + 1)

/-- The entries of a map that is read. -/
def entriesA (hp : Tr Blk) : AV → Option (List (AV × AV × Nat))
  | .nilm => some []
  | .map id => match hp.get id with
    | some (.map _ es _) => some es
    | _ => none
  | _ => none

def doLookup (hp : Tr Blk) (nx : Nat) (t : TypeId) (m k : AV) (ok : Bool) : Option R :=
  match P.underlying t with
  | some (.map kt et) => match P.underlying kt, entriesA hp m, zeroA P et with
    | some kind, some es, some z =>
      bif plainKey kind k then
        match findA kind k es 0 with
        | some (some (_, v, _)) => rv nx (bif ok then .tup [v, .bool true] else v)
        | some none => rv nx (bif ok then .tup [z, .bool false] else z)
        | none => none
      else none
    | _, _, _ => none
  | _ => none

def doMapSet (hp : Tr Blk) (nx : Nat) (t : TypeId) (m k v : AV) : Option R :=
  match P.underlying t, m with
  | some (.map kt _), .map id => match P.underlying kt, hp.get id with
    | some kind, some (.map true es c) =>
      bif plainKey kind k then
        match findA kind k es 0 with
        | some (some (i, _, _)) => rset nx unit id (.map true (setE i (fun e => (k, v, e.2.2)) es) c)
        | some none => rset nx unit id (.map true (es ++ [(k, v, c)]) (c + 1))
        | none => none
      else none
    | _, _ => none
  | _, _ => none

def doMapEntry (hp : Tr Blk) (nx : Nat) (t : TypeId) (m k : AV) : Option R :=
  match P.underlying t, m with
  | some (.map kt et), .map id => match P.underlying kt, hp.get id, zeroA P et with
    | some kind, some (.map true es c), some z =>
      bif plainKey kind k then
        match findA kind k es 0 with
        | some (some (i, v, b)) => rset nx (.tup [v, .int .i64 (.ofNat b)]) id (.map true (setE i (fun e => (k, e.2)) es) c)
        | some none => rset nx (.tup [z, .int .i64 (.ofNat c)]) id (.map true (es ++ [(k, z, c)]) (c + 1))
        | none => none
      else none
    | _, _, _ => none
  | _, _ => none

def doEntryStore (hp : Tr Blk) (nx : Nat) (m s v : AV) : Option R :=
  match m, s with
  | .map id, .int _ (.ofNat b) => match hp.get id with
    | some (.map true es c) => match bornE b es 0 with
      | some i => rset nx unit id (.map true (setE i (fun e => (e.1, v, e.2.2)) es) c)
      | none => none
    | _ => none
  | _, _ => none

def doDelete (hp : Tr Blk) (nx : Nat) (t : TypeId) (m k : AV) : Option R :=
  match P.underlying t, m with
  | some (.map kt _), .map id => match P.underlying kt, hp.get id with
    | some kind, some (.map true es c) =>
      bif plainKey kind k then
        match findA kind k es 0 with
        | some (some (i, _, _)) => rset nx unit id (.map true (delE i es) c)
        | some none => rset nx unit id (.map true es c)
        | none => none
      else none
    | _, _ => none
  | _, _ => none

/-! ### Append, copy -/
/-- The first n elements of what is appended, or copied. -/
def firstA (hp : Tr Blk) (es n : Nat) : AV → Option (List AV)
  | .nils => some []
  | .sle => bif Nat.beq n 0 then some [] else none
  | .sl id off _ _ _ => match hp.get id with
    | some (.cells _ _ l) => sub l off (n * es)
    | _ => none
  | .str s => bif Nat.beq es 1 then some ((s.take n).map fun b => .int .u8 (.ofNat b)) else none
  | _ => none
def lenA : AV → Option Nat
  | .nils | .sle => some 0
  | .sl _ _ len _ _ => some len
  | .str s => some s.length
  | _ => none

/-- append(s, x..): s's block is used up where its room is not known. -/
def appendTo (hp : Tr Blk) (nx es n : Nat) (new : List AV) : AV → Option R
  | .nils => bif Nat.beq n 0 then rv nx .nils else rnew nx (.sl nx 0 n none es) (.cells true true new)
  | .sl id off len cap es' =>
    bif Nat.beq es es' then
      match hp.get id with
      | some (.cells w o l) =>
        match cap with
        | some c =>
          bif Nat.ble (len + n) c then
            bif Nat.beq n 0 then rv nx (.sl id off len (some c) es) else
            bif w then match putL (off + len * es) l new with
              | some l' => rset nx (.sl id off (len + n) (some c) es) id (.cells true o l')
              | none => none
            else none
          else match sub l off (len * es) with
            | some old => rnew nx (.sl nx 0 (len + n) none es) (.cells true true (old ++ new))
            | none => none
        | none =>
          bif Nat.ble (off + (len + n) * es) l.length then
            bif Nat.beq n 0 then rv nx (.sl id off len none es) else
            bif w then match putL (off + len * es) l new with
              | some l' => rset nx (.sl id off (len + n) none es) id (.cells true o l')
              | none => none
            else none
          else
            -- the room is not known: the old block is given up; what there is then lies at its old place or at a new one
            bif Nat.beq off 0 && w && o && Nat.beq (len * es) l.length then some ⟨.sl nx 0 (len + n) none es, [(id, none), (nx, some (.cells true true (l ++ new)))], nx + 1⟩ else none
      | _ => none
    else none
  | _ => none

def doAppend (hp : Tr Blk) (nx : Nat) (sT xT : TypeId) (s x : AV) : Option R :=
  match P.underlying sT, P.underlying xT with
  | some (.slice e), some d => match d, sizeB P e, bytesB P e, zeroA P e, lenA x, lenA s with
    | .int _, _, _, _, _, _ => none
    | _, some es, some bytes, some z, some n, some m =>
      bif Nat.beq es 0 || (!Nat.beq z.cells.length es) || Nat.blt 65536 bytes || Nat.blt 1048576 (m + n) then none else
      match firstA hp es n x with
      | some new => bif Nat.beq new.length (n * es) then appendTo hp nx es n new s else none
      | none => none
    | _, _, _, _, _, _ => none
  | _, _ => none

def doCopy (hp : Tr Blk) (nx : Nat) (dT : TypeId) (d s : AV) : Option R :=
  match P.underlying dT with
  | some (.slice e) => match sizeB P e, lenA s, lenA d with
    | some es, some n, some len =>
      let m := bif Nat.ble n len then n else len
      match firstA hp es m s with
      | some new => match d with
        | .nils => rv nx (.int .i64 0)
        | .sle => rv nx (.int .i64 0)
        | .sl id off _ _ _ => putB hp nx (.int .i64 (.ofNat m)) id off new
        | _ => none
      | none => none
    | _, _, _ => none
  | _ => none

def doClear (hp : Tr Blk) (nx : Nat) (t : TypeId) (x : AV) : Option R :=
  match P.underlying t with
  | some (.slice el) => match x with
    | .nils => rv nx unit
    | .sl id off n _ _ => match zeroA P el with
      | some z => bif Nat.beq n 0 then rv nx unit else putB hp nx unit id off (repl n z.cells)
      | none => none
    | _ => none
  | _ => none

/-! ### Conversions -/
def bytesOfCells : List AV → Option (List Nat)
  | [] => some []
  | .int .u8 (.ofNat n) :: l => match bytesOfCells l with
    | some r => bif Nat.blt n 256 then some (n :: r) else none
    | none => none
  | _ => none

def utf8Enc (n : Nat) : List Nat := ofBA (Utf8.encode (Int.ofNat n))

def doConvert (hp : Tr Blk) (nx : Nat) (src dst : TypeId) (x : AV) : Option R :=
  match P.underlying src, P.underlying dst with
  | some s, some (.int k) => match x with
    | .int _ n => rv nx (.int k (wrapA k n))
    | _ => match s with | _ => none
  | some s, some .string => match x with
    | .str b => rv nx (.str b)
    | .int _ (.ofNat n) => rv nx (.str (utf8Enc n))
    | .nils => match s with
      | .slice e => match P.underlying e with
        | some (.int .u8) => rv nx (.str [])
        | _ => none
      | _ => none
    | .sl id off len _ _ => match s with
      | .slice e => match P.underlying e, hp.get id with
        | some (.int .u8), some (.cells _ _ l) => match sub l off len with
          | some cs => match bytesOfCells cs with
            | some b => rv nx (.str b)
            | none => none
          | none => none
        | _, _ => none
      | _ => none
    | _ => none
  | some _, some (.slice e) => match x, P.underlying e with
    | .str s, some (.int .u8) => rnew nx (.sl nx 0 s.length none 1) (.cells true true (s.map fun b => .int .u8 (.ofNat b)))
    | _, _ => none
  | _, _ => none

/-! ### Interface values -/
def doMakeIface (nx : Nat) (t : TypeId) (x : AV) : Option R :=
  match P.underlying t with
  | some (.interface _) | none => none
  | some _ => rv nx (.iface t x)

def doAssert (nx : Nat) (x : AV) (asserted : TypeId) (ok : Bool) : Option R :=
  match P.underlying asserted, x with
  | some (.interface _), _ => none
  | some _, .nili => bif ok then match zeroA P asserted with
      | some z => rv nx (.tup [z, .bool false])
      | none => none
    else none
  | some _, .iface t v =>
    bif Nat.beq t asserted then rv nx (bif ok then .tup [v, .bool true] else v)
    else bif ok then match zeroA P asserted with
      | some z => rv nx (.tup [z, .bool false])
      | none => none
    else none
  | _, _ => none

/-! ### Ranges -/
def doRange (nx : Nat) (t : TypeId) (x : AV) : Option R :=
  match P.underlying t, x with
  | some .string, .str s => rnew nx (.ptr nx 0) (.siter s 0)
  | _, _ => none
def doNext (hp : Tr Blk) (nx : Nat) (it : AV) (isS : Bool) : Option R :=
  match it, isS with
  | .ptr id 0, true => match hp.get id with
    | some (.siter s pos) => match nthS s pos with
      | none => rv nx (.tup [.bool false])
      | some b => bif Nat.blt b 128 then rset nx (.tup [.bool true, .int .i64 (.ofNat pos), .int .i32 (.ofNat b)]) id (.siter s (pos + 1)) else none
    | _ => none
  | _, _ => none

def foldI (f : Int → Int → Int) : Int → List AV → Option Int
  | x, [] => some x
  | x, .int _ y :: l => foldI f (f x y) l
  | _, _ => none
def maxI (x y : Int) : Int := bif ltI x y then y else x
def minI (x y : Int) : Int := bif ltI y x then y else x

def doLen (hp : Tr Blk) (nx : Nat) (t : TypeId) (x : AV) : Option R :=
  match P.underlying t with
  | some .string => match x with
    | .str s => rv nx (.int .i64 (.ofNat s.length))
    | _ => none
  | some (.array n _) => rv nx (.int .i64 (.ofNat n))
  | some (.slice _) => match x with
    | .nils => rv nx (.int .i64 0)
    | .sle => rv nx (.int .i64 0)
    | .sl _ _ n _ _ => rv nx (.int .i64 (.ofNat n))
    | _ => none
  | some (.map _ _) => match entriesA hp x with
    | some es => rv nx (.int .i64 (.ofNat es.length))
    | none => none
  | _ => none
def doCap (nx : Nat) (t : TypeId) (x : AV) : Option R :=
  match P.underlying t, x with
  | some (.slice _), .nils => rv nx (.int .i64 0)
  | some (.slice _), .sl _ _ _ (some n) _ => rv nx (.int .i64 (.ofNat n))
  | _, _ => none

def doBuiltin (hp : Tr Blk) (nx : Nat) (b : Builtin) (ts : List TypeId) (xs : List AV) : Option R :=
  match b, ts, xs with
  | .append, [t, u], [s, x] => doAppend P hp nx t u s x
  | .len, [t], [x] => doLen P hp nx t x
  | .cap, [t], [x] => doCap P nx t x
  | .copy, [t, _], [d, s] => doCopy P hp nx t d s
  | .delete, [t, _], [m, k] => doDelete P hp nx t m k
  | .clear, [t], [x] => doClear P hp nx t x
  | .max, _, .int k x :: l => match foldI maxI x l with
    | some n => rv nx (.int k n)
    | none => none
  | .min, _, .int k x :: l => match foldI minI x l with
    | some n => rv nx (.int k n)
    | none => none
  | _, _, _ => none

def doPick (nx : Nat) (c a b : AV) : Option R :=
  match c with
  | .bool true => rv nx a
  | .bool false => rv nx b
  | _ => none
def doNilCheck (nx : Nat) (x : AV) : Option R :=
  match x with
  | .ptr id off => rv nx (.ptr id off)
  | .fn f a b => rv nx (.fn f a b)
  | .iface t v => rv nx (.iface t v)
  | _ => none
def doExtract (nx : Nat) (t : AV) (i : Nat) : Option R :=
  match t with
  | .tup l => rvO nx l[i]?
  | _ => none
def doMakeFunc (nx : Nat) (f : Fn) (a b : List AV) : Option R :=
  match f with
  | .func g => rv nx (.fn g a b)
  | _ => none

def parts (tm : Tr AV) (ps : Array (Nat × Operand)) : List (Nat × AV) := ps.toList.map fun p => (p.1, ev G tm p.2)
def evs (tm : Tr AV) (xs : Array Operand) : List AV := xs.toList.map (ev G tm)

/-- An operation that calls nothing. -/
def aop (tm : Tr AV) (hp : Tr Blk) (nx : Nat) (o : Oper) : Option R :=
  match o.op with
  | .move x => rv nx (ev G tm x)
  | .assign x => rv nx (ev G tm x)
  | .load t a => rvO nx (loadA P hp t (ev G tm a))
  | .store t a x => doStore P hp nx t (ev G tm a) (ev G tm x)
  | .binOp op t x y _ => bif guardA op x y (ev G tm x) (ev G tm y) then rvO nx (binA P op t (ev G tm x) (ev G tm y)) else none
  | .fieldAddr s x f => doFieldAddr P nx s (ev G tm x) f
  | .indexAddr t x i => doIndexAddr P nx t (ev G tm x) (ev G tm i)
  | .nilCheck x => doNilCheck nx (ev G tm x)
  | .pick c a b => doPick nx (ev G tm c) (ev G tm a) (ev G tm b)
  | .unOp op _ x => rvO nx (unA op (ev G tm x))
  | .alloc t => doAlloc P nx t
  | .box _ x => doBox nx (ev G tm x)
  | .build t ps => doBuild P nx t (parts G tm ps)
  | .buildSlice t len ps => doBuildSlice P nx t len (parts G tm ps)
  | .convert s d x => doConvert P hp nx s d (ev G tm x)
  | .makeInterface t x => doMakeIface P nx t (ev G tm x)
  | .makeFunc f a b => doMakeFunc nx f (evs G tm a) (evs G tm b)
  | .makeMap t r => doMakeMap P nx t (r.map (ev G tm))
  | .makeSlice t l c => doMakeSlice P nx t (ev G tm l) (ev G tm c)
  | .slice t x lo hi mx => doSlice P hp nx t (ev G tm x) (lo.map (ev G tm)) (hi.map (ev G tm)) (mx.map (ev G tm))
  | .field s x f => doField P nx s (ev G tm x) f
  | .index t x i => doIndex P nx t (ev G tm x) (ev G tm i)
  | .lookup t x i ok => doLookup P hp nx t (ev G tm x) (ev G tm i) ok
  | .mapUpdate t m k v => doMapSet P hp nx t (ev G tm m) (ev G tm k) (ev G tm v)
  | .insert t m k v => doMapSet P hp nx t (ev G tm m) (ev G tm k) (ev G tm v)
  | .mapEntry t m k => doMapEntry P hp nx t (ev G tm m) (ev G tm k)
  | .entryStore _ m s v => doEntryStore hp nx (ev G tm m) (ev G tm s) (ev G tm v)
  | .range t x => doRange P nx t (ev G tm x)
  | .next it isS => doNext hp nx (ev G tm it) isS
  | .typeAssert x _ asserted ok => doAssert P nx (ev G tm x) asserted ok
  | .extract t i => doExtract nx (ev G tm t) i
  | .call c => match c.callee with
    | .builtin b => doBuiltin P hp nx b c.argTypes.toList (evs G tm c.args)
    | _ => none
  | _ => none

/-! ### Calls -/
def countS (c : Nat) : List Nat → Nat
  | [] => 0
  | x :: l => bif Nat.beq x c then countS c l + 1 else countS c l
def indexS (c : Nat) : List Nat → Nat → Option Nat
  | [], _ => none
  | x :: l, i => bif Nat.beq x c then some i else indexS c l (i + 1)

def extA (nx : Nat) : ExtK → List AV → Option R
  | .count, [.str s, .int .u8 (.ofNat c)] => bif Nat.blt c 256 then rv nx (.int .i64 (.ofNat (countS c s))) else none
  | .indexByte, [.str s, .int .u8 (.ofNat c)] => bif Nat.blt c 256 then match indexS c s 0 with
    | some i => rv nx (.int .i64 (.ofNat i))
    | none => rv nx (.int .i64 (-1))
    else none
  | .same, [x] => rv nx x
  | .compare, [.str a, .str b] => rv nx (.int .i64 (bif eqS a b then 0 else bif ltS a b then -1 else 1))
  | .makeNoZero, [.int .i64 (.ofNat n)] => bif Nat.blt n 1048576 then rnew nx (.sl nx 0 n none 1) (.cells true true (repl n [.junk])) else none
  | _, _ => none

inductive Callk where
  | func (f : FuncId) (args : List AV)
  | yield (id : Nat) (args : List AV)

/-- The method of a value behind an interface value: the plain ways alone (no promotion, no pointer to a value's method). -/
def methodA (t : TypeId) (v : AV) (name : String) : Option (FuncId × AV) :=
  match P.info? t with
  | some i => match i.methods.find? (·.name == name) with
    | some m => bif m.path.isEmpty then
        match m.func, P.underlying t with
        | some (f, true), some (.pointer _) => some (f, v)
        | some (_, false), some (.pointer _) => none
        | some (f, false), some _ => some (f, v)
        | _, _ => none
      else none
    | none => none
  | none => none

def calleeA (tm : Tr AV) (c : Call) : Option Callk :=
  match c.callee with
  | .value f => match ev G tm f with
    | .fn g first cap => some (.func g (first ++ evs G tm c.args ++ cap))
    | .yl id => some (.yield id (evs G tm c.args))
    | _ => none
  | .invoke r n => match ev G tm r with
    | .iface t v => match methodA P t v n with
      | some (g, r) => some (.func g (r :: evs G tm c.args))
      | none => none
    | _ => none
  | .builtin _ => none

def putTmps : List AV → Nat → Tr AV → Tr AV
  | [], _, tm => tm
  | x :: l, i, tm => putTmps l (i + 1) (tm.set i (some x))

def enterA (f : FuncId) (args : List AV) : Option Fr :=
  match P.funcs[f]? with
  | some fn => match fn.body with
    | some c => bif Nat.ble args.length fn.ntmps then some { fn := f, sz := fn.ntmps, tm := putTmps args 0 .lf, todo := [.code c], df := [], rd := none, ret := false } else none
    | none => none
  | none => none

def putPs : List Tmp → List AV → Tr AV → Tr AV
  | p :: ps, a :: as, tm => putPs ps as (tm.set p (some a))
  | _, _, tm => tm

def roundA (hp : Tr Blk) (id : Nat) (args : List AV) : Option Fr :=
  match hp.get id with
  | some (.loop _ _ fn sz tm ps assign body _) =>
    bif Nat.beq args.length ps.length && ps.all (Nat.blt · sz) then
      some { fn, sz, tm := putPs ps args tm, todo := [.code assign, .begR, .code body], df := [], rd := some id, ret := false }
    else none
  | _ => none

/-- The value of the top operation is there. -/
def finishA (fr : Fr) (v : AV) : Option Fr :=
  match fr.todo with
  | .inReg ops k (o :: rest) :: t =>
    match o.dst with
    | some d => bif Nat.blt d fr.sz then some { fr with tm := fr.tm.set d (some v), todo := .inReg ops (k + 1) rest :: t } else none
    | none => some { fr with todo := .inReg ops (k + 1) rest :: t }
  | .inRF id :: t => some { fr with todo := .endRF id :: t }
  | _ => none

def exitA (id : Nat) : List AI → Option (List AI)
  | .inBlock id' :: k => bif Nat.beq id' id then some k else exitA id k
  | _ :: k => exitA id k
  | [] => none
def gotoA (l : Nat) : List AI → Option (List AI)
  | .inScope body :: k => match findLabel body l with
    | some rest => some (.code rest :: .inScope body :: k)
    | none => gotoA l k
  | _ :: k => gotoA l k
  | [] => none

def wantedA (tm : Tr AV) (ops : Array Oper) (o : Oper) : Option Bool :=
  match o.guard with
  | none => some true
  | some (j, want) => match (ops.toList[j]?).bind (·.dst) with
    | some d => match tm.get d with
      | some (.bool b) => some (b == want)
      | some (.tup _) => some false
      | _ => none
    | none => none

def resA (hp : Tr Blk) (tm : Tr AV) : List ResultVar → Option (List AV)
  | [] => some []
  | .tmp t :: r => match resA hp tm r with
    | some l => some (slot tm t :: l)
    | none => none
  | .cell a t :: r => match loadA P hp t (slot tm a), resA hp tm r with
    | some v, some l => some (v :: l)
    | _, _ => none
def resultsA (hp : Tr Blk) (fn : Func) (tm : Tr AV) : Option AV :=
  match resA P hp tm fn.results.toList with
  | some [v] => some v
  | some l => some (.tup l)
  | none => none

/-- Blocks turn. -/
def St.turn (s : St) (dl : List (Nat × Option Blk)) (nx : Nat) : St := { s with hp := app dl s.hp, nx, wl := logs s.lb dl s.wl }

/-- The frame leaves: by a jump, or off its end. -/
def leaveA (s : St) (jump : Option Code) : Out :=
  match s.fr.rd with
  | none => match jump with
    | none | some .ret => .go { s with fr := { s.fr with ret := true } }
    | _ => .fail "jump"
  | some id => match s.hp.get id with
    | some (.loop _ _ fn sz tm ps a b d) =>
      let s1 := s.turn [(id, some (.loop (bif jump.isNone then .ready else .done) jump fn sz tm ps a b d))] s.nx
      match s.cs with
      | c :: cs => match finishA c (.bool jump.isNone) with
        | some c => .go { s1 with fr := c, cs }
        | none => .fail "round's end"
      | [] => .done (.bool jump.isNone) s1
    | _ => .fail "round's record"

def rangeA (s : St) (f : AV) (ps : Array Tmp) (assign body : Code) (k : List AI) : Out :=
  match f with
  | .fn g first cap => match s.fr.rd with
    | none => match enterA P g (first ++ [.yl (s.nx + 1)] ++ cap) with
      | some fr' =>
        let s1 := s.turn [(s.nx, some .dfr), (s.nx + 1, some (.loop .ready none s.fr.fn s.fr.sz s.fr.tm ps.toList assign body s.nx))] (s.nx + 2)
        .go { s1 with fr := fr', cs := { s.fr with todo := .inRF (s.nx + 1) :: k, df := s.nx :: s.fr.df } :: s.cs }
      | none => .fail "range over a function: no function"
    | some l => match s.hp.get l with
      | some (.loop _ _ _ _ _ _ _ _ d) => match enterA P g (first ++ [.yl s.nx] ++ cap) with
        | some fr' =>
          let s1 := s.turn [(s.nx, some (.loop .ready none s.fr.fn s.fr.sz s.fr.tm ps.toList assign body d))] (s.nx + 1)
          .go { s1 with fr := fr', cs := { s.fr with todo := .inRF s.nx :: k } :: s.cs }
        | none => .fail "range over a function: no function"
      | _ => .fail "no record"
  | _ => .fail "range over a function"

def codeA (s : St) (c : Code) (k : List AI) : Out :=
  match c with
  | .skip => .go { s with fr := { s.fr with todo := k } }
  | .label _ => .go { s with fr := { s.fr with todo := k } }
  | .seq a b => .go { s with fr := { s.fr with todo := .code a :: .code b :: k } }
  | .cond c a b => match ev G s.fr.tm c with
    | .bool true => .go { s with fr := { s.fr with todo := .code a :: k } }
    | .bool false => .go { s with fr := { s.fr with todo := .code b :: k } }
    | _ => .fail "cond"
  | .block id b => .go { s with fr := { s.fr with todo := .code b :: .inBlock id :: k } }
  | .loop b => .go { s with fr := { s.fr with todo := .code b :: .inLoop b :: k } }
  | .scope b => .go { s with fr := { s.fr with todo := .code b :: .inScope b :: k } }
  | .exit id => match exitA id k with
    | some k => .go { s with fr := { s.fr with todo := k } }
    | none => leaveA s (some (.exit id))
  | .goto l => match gotoA l k with
    | some k => .go { s with fr := { s.fr with todo := k } }
    | none => leaveA s (some (.goto l))
  | .ret => leaveA s (some .ret)
  | .region _ ops false => .go { s with fr := { s.fr with todo := .inReg ops 0 ops.toList :: k } }
  | .region _ ops true => .draw ops k
  | .rangeFunc f ps assign body => rangeA P s (ev G s.fr.tm f) ps assign body k
  | .refuse w => .fail w

/-- A value for the top operation. -/
def putV (s : St) (v : AV) : Out :=
  match finishA s.fr v with
  | some fr => .go { s with fr }
  | none => .fail "finish"

def callA (s : St) : Callk → Out
  | .func g args => match X g with
    | some k => match extA s.nx k args with
      | some r => putV (s.turn r.dl r.nx) r.v
      | none => .fail "extern"
    | none => match enterA P g args with
      | some fr' => .go { s with fr := fr', cs := s.fr :: s.cs }
      | none => .fail "enter"
  | .yield id args => match roundA s.hp id args with
    | some fr' => .go { s with fr := fr', cs := s.fr :: s.cs }
    | none => .fail "round"

def operA (s : St) (o : Oper) : Out :=
  match aop P G s.fr.tm s.hp s.nx o with
  | some r => putV (s.turn r.dl r.nx) r.v
  | none => match o.op with
    | .call c => match calleeA P G s.fr.tm c with
      | some k => callA P X s k
      | none => .fail "callee"
    | _ => .fail "op"

def retA (s : St) : Out :=
  match s.fr.df with
  | d :: ds => match s.hp.get d with
    | some .dfr =>
      let s1 := s.turn [(d, none)] s.nx
      .go { s1 with fr := { s.fr with df := ds } }
    | _ => .fail "deferred"
  | [] => match P.funcs[s.fr.fn]? with
    | some fn => match resultsA P s.hp fn s.fr.tm with
      | some v => match s.cs with
        | [] => .done v s
        | c :: cs => match finishA c v with
          | some c => .go { s with fr := c, cs }
          | none => .fail "finish"
      | none => .fail "results"
    | none => .fail "no function"

def begA (s : St) (k : List AI) : Out :=
  match s.fr.rd with
  | some id => match s.hp.get id with
    | some (.loop .ready pend fn sz tm ps a b d) =>
      let s1 := s.turn [(id, some (.loop .busy pend fn sz tm ps a b d))] s.nx
      .go { s1 with fr := { s.fr with todo := k } }
    | _ => .fail "begin round"
  | none => .fail "begin round"

def endRFA (s : St) (id : Nat) (k : List AI) : Out :=
  match s.hp.get id with
  | some (.loop st pend fn sz tm ps a b d) => match st with
    | .busy => .fail "busy"
    | _ =>
      let s1 := s.turn [(id, some (.loop .exhausted pend fn sz tm ps a b d))] s.nx
      .go { s1 with fr := { s.fr with todo := match pend with | some c => .code c :: k | none => k } }
  | _ => .fail "end of range"

def todoA (s : St) : Out :=
  match s.fr.todo with
  | .inReg ops _ (o :: _) :: _ => match wantedA s.fr.tm ops o with
    | some true => operA P G X s o
    | some false => putV s unit
    | none => .fail "guard"
  | .inReg _ _ [] :: k => .go { s with fr := { s.fr with todo := k } }
  | .code c :: k => codeA P G s c k
  | .inBlock _ :: k => .go { s with fr := { s.fr with todo := k } }
  | .inScope _ :: k => .go { s with fr := { s.fr with todo := k } }
  | .inLoop b :: k => .go { s with fr := { s.fr with todo := .code b :: .inLoop b :: k } }
  | .begR :: k => begA s k
  | .endRF id :: k => endRFA s id k
  | .inRF _ :: _ => .fail "in range"
  | [] => leaveA s none

def stp (s : St) : Out :=
  match s.fr.ret with
  | true => retA P s
  | false => todoA P G X s

/-! ### Regions that draw their order: in the order of the text, with a look at what each operation may touch -/
/-- What was seen of an operation: its place, the names that it may have looked at (none: all below 'nx'), the names that it turned or made. -/
structure Rec where
  i : Nat
  ft : Option (List Nat)
  nx : Nat
  lg : List Nat

def hasN (x : Nat) : List Nat → Bool
  | [] => false
  | y :: l => bif Nat.beq x y then true else hasN x l
def apartN : List Nat → List Nat → Bool
  | [], _ => true
  | x :: l, m => bif hasN x m then false else apartN l m
def allGe (n : Nat) : List Nat → Bool
  | [] => true
  | x :: l => bif Nat.ble n x then allGe n l else false

/-- The names that stand in the operands themselves. -/
def footV : AV → List Nat
  | .ptr id _ => [id]
  | .sl id _ _ _ _ => [id]
  | .map id => [id]
  | _ => []
def footVs : List AV → List Nat
  | [] => []
  | v :: l => footV v ++ footVs l

/-- The names that an operation may look up. -/
def footO (tm : Tr AV) (o : Oper) : List Nat :=
  match o.op with
  | .load .. | .store .. | .slice .. | .lookup .. | .mapUpdate .. | .insert .. | .mapEntry .. | .entryStore .. | .next .. | .convert .. | .call _ => footVs (o.op.operands.toList.map (ev G tm))
  | _ => []

def restrictA (hp : Tr Blk) (ex : List Nat) : List Nat → Tr Blk → Tr Blk
  | [], acc => acc
  | x :: l, acc => bif hasN x ex then restrictA hp ex l acc else restrictA hp ex l (acc.set x (hp.get x))
def without : List Nat → Tr Blk → Tr Blk
  | [], hp => hp
  | x :: l, hp => without l (hp.set x none)
def fromTo (a : Nat) : Nat → List Nat
  | 0 => []
  | n + 1 => a :: fromTo (a + 1) n
/-- The blocks of some names as changes. -/
def changes (hp : Tr Blk) : List Nat → List (Nat × Option Blk)
  | [] => []
  | x :: l => (x, hp.get x) :: changes hp l

/-- The earlier ones that are not ordered before an operation. -/
def looseA (b : Nat) : List Rec → List Rec
  | [] => []
  | r :: l => bif Nat.testBit b r.i then looseA b l else r :: looseA b l
def logsOf : List Rec → List Nat
  | [] => []
  | r :: l => r.lg ++ logsOf l
/-- May an operation that turns 'lg', with dst and operands as they are, stand beside those? -/
def besideA (ops : Array Oper) (o : Oper) (lg : List Nat) : List Rec → Bool
  | [] => true
  | r :: l =>
    bif (match r.ft with | none => allGe r.nx lg | some ft => apartN lg ft) && apartN lg r.lg && (match ops[r.i]? with | some x => Oper.apart ops x o | none => false)
    then besideA ops o lg l else false

/-- An operation is done: what it turned, its value. -/
def drawPut (ops : Array Oper) (i : Nat) (recs : List Rec) (us : List Rec) (s : St) (o : Oper) (ft : Option (List Nat)) (dl : List (Nat × Option Blk)) (nx : Nat) (v : AV) : Option (List Rec × St) :=
  bif besideA ops o (dl.map (·.1)) us then
    match finishA s.fr v with
    | some fr => some (⟨i, ft, s.nx, dl.map (·.1)⟩ :: recs, { s.turn dl nx with fr })
    | none => none
  else none

def drawCall (runC : St → Option (AV × St)) (ops : Array Oper) (i : Nat) (recs : List Rec) (us : List Rec) (s : St) (o : Oper) (fr' : Fr) : Option (List Rec × St) :=
  match runC { fr := fr', cs := [], hp := without (logsOf us) s.hp, nx := s.nx, lb := s.nx, wl := [] } with
  | some (v, s') => drawPut ops i recs us s o none (changes s'.hp (s'.wl ++ fromTo s.nx (s'.nx - s.nx))) s'.nx v
  | none => none

/-- One operation of a region. -/
def drawOne (runC : St → Option (AV × St)) (ops : Array Oper) (i : Nat) (recs : List Rec) (us : List Rec) (s : St) (o : Oper) : Option (List Rec × St) :=
  match wantedA s.fr.tm ops o with
  | none => none
  | some false => drawPut ops i recs us s o (some []) [] s.nx unit
  | some true =>
    match aop P G s.fr.tm (restrictA s.hp (logsOf us) (footO G s.fr.tm o) .lf) s.nx o with
    | some r => drawPut ops i recs us s o (some (footO G s.fr.tm o)) r.dl r.nx r.v
    | none => match o.op with
      | .call c => match calleeA P G s.fr.tm c with
        | some (.func g args) => match X g with
          | some k => match extA s.nx k args with
            | some r => drawPut ops i recs us s o (some []) r.dl r.nx r.v
            | none => none
          | none => match enterA P g args with
            | some fr' => drawCall runC ops i recs us s o fr'
            | none => none
        | some (.yield id args) => match roundA (without (logsOf us) s.hp) id args with
          | some fr' => drawCall runC ops i recs us s o fr'
          | none => none
        | none => none
      | _ => none

/-- The operations of a region, from place i on. 'runC' runs a frame to its end. -/
def drawA (runC : St → Option (AV × St)) (ops : Array Oper) (bs : Array Nat) : List Oper → Nat → List Rec → St → Option St
  | [], _, _, s => some s
  | o :: rest, i, recs, s => match drawOne P G X runC ops i recs (looseA (bs.getD i 0) recs) s o with
    | some (recs', s') => drawA runC ops bs rest (i + 1) recs' s'
    | none => none

/-- Every edge that binds goes back in the text. -/
def backA (ops : Array Oper) : Nat → List Oper → Bool
  | _, [] => true
  | i, o :: r => bif o.after.toList.all (fun e => !Region.binds .any e || Nat.blt e.on i) then backA ops (i + 1) r else false

/-- A frame run to its end. -/
def run : Nat → St → Option (AV × St)
  | 0, _ => none
  | n + 1, s => match stp P G X s with
    | .go s' => run n s'
    | .done v s' => some (v, s')
    | .draw ops k => bif backA ops 0 ops.toList then
        match drawA P G X (fun s => run n s) ops (Region.before ops) ops.toList 0 [] { s with fr := { s.fr with todo := .inReg ops 0 ops.toList :: k } } with
        | some s' => run n s'
        | none => none
      else none
    | .fail _ => none

end
end Go.Ex
