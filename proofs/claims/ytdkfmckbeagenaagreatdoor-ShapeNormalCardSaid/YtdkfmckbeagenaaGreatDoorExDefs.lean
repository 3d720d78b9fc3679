/-
  The abstract machine: definitions. It runs closed calls of a program of the model, with block numbers by name; nothing is proved here.
-/
import Derived.RangeFuncRecord
import Derived.OrdersIn
import Derived.Below
set_option linter.unusedVariables false
set_option linter.unusedSimpArgs false
namespace Go.Ex
noncomputable section

inductive Tr (α : Type) where
 | lf : Tr α
 | nd : Tr α → Option α → Tr α → Tr α
inductive Pth where
 | here | lft (p : Pth) | rgt (p : Pth)
def pathF (d : Nat) : Nat → Pth := Nat.rec (motive := fun _ => Nat → Pth) (fun _ => .here)
 (fun _ f n => cond (Nat.beq n 0) .here (cond (Nat.beq (Nat.mod n 2) 1) (.lft (f (Nat.div n 2))) (.rgt (f (Nat.sub (Nat.div n 2) 1))))) d
def pathOf (n : Nat) : Pth := pathF (Nat.succ n) n
namespace Tr
variable {α : Type}
def getP (t : Tr α) : Pth → Option α :=
 Tr.rec (motive := fun _ => Pth → Option α) (fun _ => none) (fun _ v _ gl gr p => Pth.rec (motive := fun _ => Option α) v (fun q _ => gl q) (fun q _ => gr q) p) t
def one (p : Pth) (x : Option α) : Tr α := Pth.rec (motive := fun _ => Tr α) (.nd .lf x .lf) (fun _ t => .nd t none .lf) (fun _ t => .nd .lf none t) p
def setP (t : Tr α) : Pth → Option α → Tr α :=
 Tr.rec (motive := fun _ => Pth → Option α → Tr α) (fun p x => one p x)
  (fun l v r sl sr p x => Pth.rec (motive := fun _ => Tr α) (.nd l x r) (fun q _ => .nd (sl q x) v r) (fun q _ => .nd l v (sr q x)) p) t
def get (t : Tr α) (n : Nat) : Option α := getP t (pathOf n)
def set (t : Tr α) (n : Nat) (x : Option α) : Tr α := setP t (pathOf n) x
end Tr

inductive AV where
 | junk
 | one
 | bool (b : Bool)
 | int (k : IntKind) (n : Int)
 | flt (k : FloatKind) (bits : Nat)
 | str (s : List Nat)
 | nilp
 | ptr (id off : Nat)
 | nils
 | sl (id off len : Nat) (cap : Option Nat) (es : Nat)
 | sle
 | nilm
 | map (id : Nat)
 | fn (f : FuncId) (first captured : List AV)
 | yl (id : Nat)
 | nilf
 | iface (t : TypeId) (v : AV)
 | nili
 | agg (l : List AV)
 | tup (l : List AV)
 | stopv
 deriving Inhabited
def AV.cells : AV → List AV
 | .agg l => l
 | v => [v]
inductive Blk where
 | cells (w : Bool) (opn : Bool) (t : Option TypeId) (l : List AV)
 | map (w : Bool) (es : List (AV × AV × Nat)) (clock : Nat)
 | umap (w : Bool) (es : List (AV × AV)) (clock : Nat)
 | siter (s : List Nat) (pos : Nat)
 | miter (m : Option Nat) (since : Nat) (seen : List Nat) (stepped : Nat)
 | loop (st : LoopState) (pend : Option Code) (fn : FuncId) (sz : Nat) (tm : Tr AV) (ps : List Tmp) (assign body : Code) (df : Nat)
 | dfr
inductive AI where
 | code (c : Code)
 | inBlock (id : Nat)
 | inLoop (c : Code)
 | inScope (c : Code)
 | inReg (ops : Array Oper) (k : Nat) (rest : List Oper)
 | inRF (id : Nat)
 | endRF (id : Nat)
 | begR
 | stop
structure Fr where
 fn : FuncId
 sz : Nat
 tm : Tr AV
 todo : List AI
 df : List Nat
 rd : Option Nat
 ret : Bool
structure St where
 fr : Fr
 cs : List Fr
 hp : Tr Blk
 nx : Nat
 lb : Nat
 wl : List Nat
structure R where
 v : AV
 dl : List (Nat × Option Blk)
 nx : Nat
inductive Out where
 | go (s : St)
 | done (v : AV) (s : St)
 | draw (ops : Array Oper) (k : List AI)
 | pick (l : List R)
 | fail (why : String)
 | stop (s : St)
inductive ExtK where
 | count | indexByte | same | makeNoZero (e : TypeId) | compare | fbits | insert | yes (G0 : Nat) (L : List (Nat × List AV)) | tiny (t : TypeId)
def app (l : List (Nat × Option Blk)) : Tr Blk → Tr Blk :=
 List.rec (motive := fun _ => Tr Blk → Tr Blk) (fun hp => hp) (fun p _ f hp => f (hp.set p.1 p.2)) l
theorem app_n (hp : Tr Blk) : app [] hp = hp := rfl
theorem app_c (i : Nat) (b : Option Blk) (r : List (Nat × Option Blk)) (hp : Tr Blk) : app ((i, b) :: r) hp = app r (hp.set i b) := rfl
def logs (lb : Nat) (l : List (Nat × Option Blk)) (wl : List Nat) : List Nat :=
 List.rec (motive := fun _ => List Nat) wl (fun p _ r => cond (Nat.blt p.1 lb) (p.1 :: r) r) l
theorem logs_n (lb : Nat) (wl : List Nat) : logs lb [] wl = wl := rfl
theorem logs_c (lb i : Nat) (b : Option Blk) (r : List (Nat × Option Blk)) (wl : List Nat) : logs lb ((i, b) :: r) wl = (bif Nat.blt i lb then i :: logs lb r wl else logs lb r wl) := rfl
def rv (nx : Nat) (v : AV) : Option R := some ⟨v, [], nx⟩
def rvO (nx : Nat) : Option AV → Option R
 | some v => some ⟨v, [], nx⟩
 | none => none
def rnew (nx : Nat) (v : AV) (b : Blk) : Option R := some ⟨v, [(nx, some b)], nx + 1⟩
def rset (nx : Nat) (v : AV) (id : Nat) (b : Blk) : Option R := some ⟨v, [(id, some b)], nx⟩
def unit : AV := .tup []
def ofBA (b : ByteArray) : List Nat := b.data.toList.map UInt8.toNat
def ofCell : Value → Option AV
 | .bool b => some (.bool b)
 | .int k n => some (.int k n)
 | .float k b => some (.flt k b)
 | .string s => some (.str (ofBA s))
 | .pointer none => some .nilp
 | .slice none 0 0 => some .nils
 | .map none => some .nilm
 | .nilFunc => some .nilf
 | .nilIface => some .nili
 | _ => none
def ofCells : List Value → Option (List AV)
 | [] => some []
 | v :: l => match ofCell v, ofCells l with
  | some a, some r => some (a :: r)
  | _, _ => none
def ofVal : Value → Option AV
 | .agg cs => match ofCells cs.toList with
  | some l => some (.agg l)
  | none => none
 | v => ofCell v
section
variable (P : Program) (G : Nat) (X : FuncId → Option ExtK)

def slot (tm : Tr AV) (t : Nat) : AV := Option.rec (motive := fun _ => AV) .junk (fun v => v) (tm.get t)
theorem slot_eq (tm : Tr AV) (t : Nat) : slot tm t = (match tm.get t with
 | some v => v
 | none => .junk) := by unfold slot; cases tm.get t <;> rfl
def constA (v : Value) : AV := match ofVal v with
 | some a => a
 | none => .junk
def evR (x : Operand) : Nat → Tr AV → AV :=
 Operand.rec (motive := fun _ => Nat → Tr AV → AV) (fun t _ tm => slot tm t) (fun v _ _ => constA v) (fun g G _ => bif Nat.blt g G then .ptr g 0 else .junk) (fun f _ _ => .fn f [] []) x
def ev (tm : Tr AV) (x : Operand) : AV := evR x G tm
def takeL (n : Nat) : List AV → Option (List AV) :=
 Nat.rec (motive := fun _ => List AV → Option (List AV)) (fun _ => some [])
  (fun _ f l => List.rec (motive := fun _ => Option (List AV)) none (fun x t _ => match f t with
   | some r => some (x :: r)
   | none => none) l) n
theorem takeL_z (l : List AV) : takeL 0 l = some [] := rfl
theorem takeL_n (n : Nat) : takeL (n + 1) [] = none := rfl
theorem takeL_c (n : Nat) (x : AV) (l : List AV) : takeL (n + 1) (x :: l) = (match takeL n l with
   | some r => some (x :: r)
   | none => none) := rfl
def dropL (n : Nat) : List AV → List AV :=
 Nat.rec (motive := fun _ => List AV → List AV) (fun l => l) (fun _ f l => List.rec (motive := fun _ => List AV) [] (fun _ t _ => f t) l) n
theorem dropL_z (l : List AV) : dropL 0 l = l := rfl
theorem dropL_n (n : Nat) : dropL (n + 1) [] = [] := rfl
theorem dropL_c (n : Nat) (x : AV) (l : List AV) : dropL (n + 1) (x :: l) = dropL n l := rfl
def sub (l : List AV) (off n : Nat) : Option (List AV) := takeL n (dropL off l)
def putF (l xs : List AV) : Option (List AV) :=
 List.rec (motive := fun _ => List AV → Option (List AV)) (fun l => some l)
  (fun x _ f l => List.rec (motive := fun _ => Option (List AV)) none (fun _ t _ => match f t with
   | some r => some (x :: r)
   | none => none) l) xs l
theorem putF_z (l : List AV) : putF l [] = some l := rfl
theorem putF_n (x : AV) (xs : List AV) : putF [] (x :: xs) = none := rfl
theorem putF_c (y x : AV) (l xs : List AV) : putF (y :: l) (x :: xs) = (match putF l xs with
   | some r => some (x :: r)
   | none => none) := rfl
def putL (n : Nat) : List AV → List AV → Option (List AV) :=
 Nat.rec (motive := fun _ => List AV → List AV → Option (List AV)) (fun l xs => putF l xs)
  (fun _ f l xs => List.rec (motive := fun _ => Option (List AV)) (List.rec (motive := fun _ => Option (List AV)) (some []) (fun _ _ _ => none) xs)
   (fun y t _ => match f t xs with
    | some r => some (y :: r)
    | none => none) l) n
theorem putL_z (l xs : List AV) : putL 0 l xs = putF l xs := rfl
theorem putL_nn (n : Nat) : putL (n + 1) [] [] = some [] := rfl
theorem putL_nc (n : Nat) (x : AV) (xs : List AV) : putL (n + 1) [] (x :: xs) = none := rfl
theorem putL_c (n : Nat) (y : AV) (l xs : List AV) : putL (n + 1) (y :: l) xs = (match putL n l xs with
    | some r => some (y :: r)
    | none => none) := rfl
def isAggB (t : TypeId) : Option Bool :=
 match P.underlying t with
 | some (.struct _) | some (.array _ _) => some true
 | some _ => some false
 | none => none
def sizeB (t : TypeId) : Option Nat := match P.info? t with
 | some i => some i.size
 | none => none
def bytesB (t : TypeId) : Option Nat := match P.info? t with
 | some i => some i.bytes
 | none => none
def zeroA (t : TypeId) : Option AV := match P.info? t with
 | some i => match i.zero with
  | some z => ofVal z
  | none => none
 | none => none
def repl (n : Nat) (z : List AV) : List AV := Nat.rec (motive := fun _ => List AV) [] (fun _ r => z ++ r) n
theorem repl_z (z : List AV) : repl 0 z = [] := rfl
theorem repl_c (n : Nat) (z : List AV) : repl (n + 1) z = z ++ repl n z := rfl
def partA (t : TypeId) (l : List AV) (off : Nat) : Option AV :=
 match isAggB P t, sizeB P t with
 | some true, some n => match sub l off n with
  | some r => some (.agg r)
  | none => none
 | some false, some _ => match dropL off l with
  | v :: _ => some v
  | [] => none
 | _, _ => none
def loadA (hp : Tr Blk) (t : TypeId) : AV → Option AV
 | .ptr id off => match hp.get id with
  | some (.cells _ _ _ l) => partA P t l off
  | _ => none
 | _ => none
def putB (hp : Tr Blk) (nx : Nat) (v : AV) (id off : Nat) (vs : List AV) : Option R :=
 match hp.get id with
 | some (.cells true o t l) => match putL off l vs with
  | some l' => rset nx v id (.cells true o t l')
  | none => none
 | _ => none
def cellsK : AV → Option (List AV)
 | .junk => none
 | .tup _ => none
 | .agg l => some l
 | v => some [v]
def doStore (hp : Tr Blk) (nx : Nat) (t : TypeId) (a v : AV) : Option R :=
 match a, sizeB P t, cellsK v with
 | .ptr id off, some n, some cs => bif Nat.beq cs.length n then putB hp nx unit id off cs else none
 | _, _, _ => none
def fits : IntKind → Int → Bool
 | .i64, .ofNat m => Nat.blt m 9223372036854775808
 | .i64, .negSucc m => Nat.blt m 9223372036854775808
 | .u8, .ofNat m => Nat.blt m 256
 | .u64, .ofNat m => Nat.blt m 18446744073709551616
 | .i8, .ofNat m => Nat.blt m 128
 | .i8, .negSucc m => Nat.blt m 128
 | .i32, .ofNat m => Nat.blt m 2147483648
 | .i32, .negSucc m => Nat.blt m 2147483648
 | .u32, .ofNat m => Nat.blt m 4294967296
 | _, _ => false
def wrapA (k : IntKind) (n : Int) : Int := bif fits k n then n else k.wrap n
def ltI : Int → Int → Bool
 | .ofNat a, .ofNat b => Nat.blt a b
 | .ofNat _, .negSucc _ => false
 | .negSucc _, .ofNat _ => true
 | .negSucc a, .negSucc b => Nat.blt b a
def eqI : Int → Int → Bool
 | .ofNat a, .ofNat b => Nat.beq a b
 | .negSucc a, .negSucc b => Nat.beq a b
 | _, _ => false
def eqS (a : List Nat) : List Nat → Bool :=
 List.rec (motive := fun _ => List Nat → Bool) (fun b => List.rec (motive := fun _ => Bool) true (fun _ _ _ => false) b)
  (fun x _ f b => List.rec (motive := fun _ => Bool) false (fun y t _ => cond (Nat.beq x y) (f t) false) b) a
theorem eqS_nn : eqS [] [] = true := rfl
theorem eqS_nc (y : Nat) (b : List Nat) : eqS [] (y :: b) = false := rfl
theorem eqS_cn (x : Nat) (a : List Nat) : eqS (x :: a) [] = false := rfl
theorem eqS_cc (x y : Nat) (a b : List Nat) : eqS (x :: a) (y :: b) = (bif Nat.beq x y then eqS a b else false) := rfl
def ltS (a : List Nat) : List Nat → Bool :=
 List.rec (motive := fun _ => List Nat → Bool) (fun b => List.rec (motive := fun _ => Bool) false (fun _ _ _ => true) b)
  (fun x _ f b => List.rec (motive := fun _ => Bool) false (fun y t _ => cond (Nat.beq x y) (f t) (Nat.blt x y)) b) a
theorem ltS_n (a : List Nat) : ltS a [] = false := by cases a <;> rfl
theorem ltS_nc (y : Nat) (b : List Nat) : ltS [] (y :: b) = true := rfl
theorem ltS_cc (x y : Nat) (a b : List Nat) : ltS (x :: a) (y :: b) = (bif Nat.beq x y then ltS a b else Nat.blt x y) := rfl
def eqK (a b : IntKind) : Bool := match a, b with
 | .i8, .i8 | .i16, .i16 | .i32, .i32 | .i64, .i64 | .u8, .u8 | .u16, .u16 | .u32, .u32 | .u64, .u64 => true
 | _, _ => false
def bitsA (op : BinOp) (k : IntKind) (x y : Int) : Option AV :=
 match op with
 | .and => some (.int k (k.wrap ((BitVec.ofInt k.bits x &&& BitVec.ofInt k.bits y).toNat)))
 | .or => some (.int k (k.wrap ((BitVec.ofInt k.bits x ||| BitVec.ofInt k.bits y).toNat)))
 | .xor => some (.int k (k.wrap ((BitVec.ofInt k.bits x ^^^ BitVec.ofInt k.bits y).toNat)))
 | .andNot => some (.int k (k.wrap ((BitVec.ofInt k.bits x &&& ~~~ BitVec.ofInt k.bits y).toNat)))
 | _ => none
def intA (op : BinOp) (k : IntKind) (x y : Int) : Option AV :=
 match op with
 | .add => some (.int k (wrapA k (x + y)))
 | .sub => some (.int k (wrapA k (x - y)))
 | .mul => some (.int k (wrapA k (x * y)))
 | .quo => bif eqI y 0 then none else some (.int k (wrapA k (x.tdiv y)))
 | .rem => bif eqI y 0 then none else some (.int k (x.tmod y))
 | .eql => some (.bool (eqI x y))
 | .neq => some (.bool (!eqI x y))
 | .lss => some (.bool (ltI x y))
 | .leq => some (.bool (!ltI y x))
 | .gtr => some (.bool (ltI y x))
 | .geq => some (.bool (!ltI x y))
 | op => bitsA op k x y
def strA (op : BinOp) (x y : List Nat) : Option AV :=
 match op with
 | .add => bif Nat.blt (x.length + y.length) 1000000 then some (.str (x ++ y)) else none
 | .eql => some (.bool (eqS x y))
 | .neq => some (.bool (!eqS x y))
 | .lss => some (.bool (ltS x y))
 | .leq => some (.bool (ltS x y || eqS x y))
 | .gtr => some (.bool (!(ltS x y || eqS x y)))
 | .geq => some (.bool (!ltS x y))
 | _ => none
def shiftA (op : BinOp) (k : IntKind) (x y : Int) : Option AV :=
 match y with
 | .negSucc _ => none
 | .ofNat n => match op with
  | .shl => some (.int k (k.wrap (x * 2 ^ (min n k.bits))))
  | .shr => some (.int k (x.fdiv (2 ^ (min n k.bits))))
  | _ => none
def eqPtr (P : Program) (e : TypeId) (i o i' o' : Nat) : Option Bool :=
 bif Nat.beq i i' then match sizeB P e with
  | some (_ + 1) => some (Nat.beq o o')
  | _ => none
 else none
def eqP (P : Program) (d : TypeDesc) (x y : AV) : Option Bool :=
 match d, x, y with
 | .bool, .bool a, .bool b => some (a == b)
 | .int _, .int k a, .int k' b => bif eqK k k' then some (eqI a b) else none
 | .string, .str a, .str b => some (eqS a b)
 | .pointer _, .nilp, .nilp => some true
 | .pointer _, .nilp, .ptr _ _ => some false
 | .pointer _, .ptr _ _, .nilp => some false
 | .pointer e, .ptr i o, .ptr i' o' => eqPtr P e i o i' o'
 | .slice _, .nils, .nils => some true
 | .slice _, .nils, .sl .. => some false
 | .slice _, .sl .., .nils => some false
 | .slice _, .nils, .sle => some false
 | .slice _, .sle, .nils => some false
 | .map _ _, .nilm, .nilm => some true
 | .map _ _, .nilm, .map _ => some false
 | .map _ _, .map _, .nilm => some false
 | .func _ _ _, .nilf, .nilf => some true
 | .func _ _ _, .nilf, .fn .. => some false
 | .func _ _ _, .fn .., .nilf => some false
 | .interface _, .nili, .nili => some true
 | .interface _, .nili, .iface _ _ => some false
 | .interface _, .iface _ _, .nili => some false
 | _, _, _ => none
def eqV (t : TypeId) (x y : AV) : Option Bool :=
 match P.underlying t, x, y with
 | some (.interface _), .iface tx vx, .iface ty vy =>
  bif Nat.beq tx ty then
   match P.info? tx, P.underlying tx with
   | some i, some d => bif i.comparable then eqP P d vx vy else none
   | _, _ => none
  else some false
 | some d, x, y => eqP P d x y
 | none, _, _ => none
def isConstB : Operand → Bool
 | .const _ => true
 | _ => false
def guardA (op : BinOp) (x y : Operand) (a b : AV) : Bool :=
 match op with
 | .eql => match a, b with
  | .nili, .nili => isConstB x || isConstB y
  | _, _ => true
 | .neq => match a, b with
  | .nili, .nili => isConstB x || isConstB y
  | _, _ => true
 | _ => true
def eqF (a b : FloatKind) : Bool := match a, b with
 | .f32, .f32 | .f64, .f64 => true
 | _, _ => false
def fltR (k : FloatKind) : Option Nat → Option AV
 | some r => some (.flt k r)
 | none => none
def fltA (op : BinOp) (k : FloatKind) (x y : Nat) : Option AV :=
 match op with
 | .add => fltR k (k.format.add x y)
 | .sub => fltR k (k.format.sub x y)
 | .mul => fltR k (k.format.mul x y)
 | .quo => fltR k (k.format.div x y)
 | .eql => some (.bool (k.format.order x y == some .eq))
 | .neq => some (.bool (k.format.order x y != some .eq))
 | .lss => some (.bool (k.format.order x y == some .lt))
 | .leq => some (.bool (k.format.order x y == some .lt || k.format.order x y == some .eq))
 | .gtr => some (.bool (k.format.order x y == some .gt))
 | .geq => some (.bool (k.format.order x y == some .gt || k.format.order x y == some .eq))
 | _ => none
def minF (k : FloatKind) (x y : Nat) : Option Nat := match k.format.order x y with
 | none => none
 | some .lt => some x
 | some .gt => some y
 | some .eq => some (if (k.decode x).neg then x else y)
def maxF (k : FloatKind) (x y : Nat) : Option Nat := match k.format.order x y with
 | none => none
 | some .lt => some y
 | some .gt => some x
 | some .eq => some (if (k.decode x).neg then y else x)
def foldF (f : Nat → Nat → Option Nat) : Nat → List AV → Option Nat
 | x, [] => some x
 | x, .flt _ y :: l => match f x y with
  | some r => foldF f r l
  | none => none
 | _, _ => none
def binA (op : BinOp) (t : TypeId) (x y : AV) : Option AV :=
 match x, y with
 | .int k a, .int k' b => match op with
  | .shl => shiftA .shl k a b
  | .shr => shiftA .shr k a b
  | op => bif eqK k k' then intA op k a b else none
 | .str a, .str b => match op with
  | .shl | .shr => none
  | op => strA op a b
 | .flt k a, .flt k' b => match op with
  | .shl | .shr => none
  | op => bif eqF k k' then fltA op k a b else none
 | x, y => match op with
  | .eql => match eqV P t x y with
   | some b => some (.bool b)
   | none => none
  | .neq => match eqV P t x y with
   | some b => some (.bool (!b))
   | none => none
  | _ => none
def plainF (P : Program) : List Field → Bool
 | [] => true
 | f :: fs => match P.underlying f.type with
  | some .bool | some (.int _) | some .string => bif f.name == "_" then false else plainF P fs
  | _ => false
def nameDiff : List Field → List Field → Bool
 | f :: fs, g :: gs => !(f.name == g.name) || nameDiff fs gs
 | _, _ => false
def unlikeB (P : Program) (u t : TypeId) : Bool :=
 !Nat.beq u t && (match (P.info? u).map TypeInfo.desc, (P.info? t).map TypeInfo.desc with
  | some (.struct gs), some (.struct fs) => !Nat.beq gs.size fs.size || nameDiff gs.toList fs.toList
  | _, some (.struct _) => true
  | _, _ => false)
def unheldB (P : Program) (t : TypeId) : Bool := P.cutTypes.toList.all fun c => unlikeB P (P.underlyingId c.2) (P.underlyingId t)
def eqFieldsA (P : Program) (l m : List AV) : List Field → Option Bool
 | [] => some true
 | f :: fs => match P.underlying f.type, partA P f.type l f.offset, partA P f.type m f.offset with
  | some d, some x, some y => match eqP P d x y with
   | some true => eqFieldsA P l m fs
   | some false => some false
   | none => none
  | _, _, _ => none
def eqAgg (P : Program) (t : TypeId) (l m : List AV) : Option Bool :=
 match P.underlying t with
 | some (.struct fs) => bif plainF P fs.toList && unheldB P t then eqFieldsA P l m fs.toList else none
 | _ => none
def binS (P : Program) (op : BinOp) (t : TypeId) (x y : AV) : Option AV :=
 match x, y with
 | .agg l, .agg m => match op with
  | .eql => match eqAgg P t l m with
   | some b => some (.bool b)
   | none => none
  | .neq => match eqAgg P t l m with
   | some b => some (.bool (!b))
   | none => none
  | _ => none
 | x, y => binA P op t x y
def unA (op : UnOp) (x : AV) : Option AV :=
 match op, x with
 | .not, .bool b => some (.bool (!b))
 | .neg, .int k n => some (.int k (wrapA k (0 - n)))
 | _, _ => none
def bound (v : AV) (top : Nat) : Option Nat :=
 match v with
 | .int _ (.ofNat n) => bif Nat.ble n top then some n else none
 | _ => none
def boundO (v : Option AV) (top dflt : Nat) : Option Nat :=
 match v with
 | some v => bound v top
 | none => some dflt
def boundH (hi mx : Option AV) (m len : Nat) : Option Nat :=
 match hi, mx with
 | none, some _ => none
 | none, none => some len
 | some v, _ => bound v m
def sliceStr (s : List Nat) (lo hi : Option AV) : Option AV :=
 match boundO hi s.length s.length with
 | some h => match boundO lo h 0 with
  | some l => some (.str ((s.take h).drop l))
  | none => none
 | none => none
def sliceCap (id off len cap es : Nat) (lo hi mx : Option AV) : Option AV :=
 match boundO mx cap cap with
 | some m =>
  match boundH hi mx m len with
  | some h => match boundO lo h 0 with
   | some l => some (.sl id (bif Nat.beq m l then off else off + l * es) (h - l) (some (m - l)) es)
   | none => none
  | none => none
 | none => none
def sliceOpn (id off len known es : Nat) (lo hi : Option AV) : Option AV :=
 match boundO hi known len with
 | some h => match boundO lo h 0 with
  | some l =>
   bif Nat.beq l 0 then some (.sl id off h none es)
   else bif Nat.blt l known then some (.sl id (off + l * es) (h - l) none es)
   else bif Nat.beq l h then some .sle else none
  | none => none
 | none => none
def doSlice (hp : Tr Blk) (nx : Nat) (t : TypeId) (x : AV) (lo hi mx : Option AV) : Option R :=
 match P.underlying t with
 | some (.array n el) => match x, sizeB P el with
  | .ptr id off, some (s + 1) => rvO nx (sliceCap id off n n (s + 1) lo hi mx)
  | _, _ => none
 | some .string => match x, mx with
  | .str s, none => rvO nx (sliceStr s lo hi)
  | _, _ => none
 | some (.slice el) => match sizeB P el, x with
  | some _, .nils => match mx, boundO hi 0 0, boundO lo 0 0 with
   | none, some _, some _ => rv nx .nils
   | _, _, _ => none
  | some _, .sle => match mx, boundO hi 0 0, boundO lo 0 0 with
   | none, some _, some _ => rv nx .sle
   | _, _, _ => none
  | some s, .sl id off len (some cap) es => bif Nat.beq s es then rvO nx (sliceCap id off len cap es lo hi mx) else none
  | some s, .sl id off len none es => bif Nat.beq s es && Nat.blt 0 es then match mx, hp.get id with
   | none, some (.cells _ _ _ cs) => rvO nx (sliceOpn id off len ((cs.length - off) / es) es lo hi)
   | some mv, some (.cells _ _ _ cs) => rvO nx (sliceCap id off len ((cs.length - off) / es) es lo hi (some mv))
   | _, _ => none
   else none
  | _, _ => none
 | _ => none
def fieldF (s : TypeId) (f : Nat) : Option Field :=
 match P.underlying s with
 | some (.struct fs) => fs.toList[f]?
 | _ => none
def doFieldAddr (nx : Nat) (s : TypeId) (x : AV) (f : Nat) : Option R :=
 match fieldF P s f, x with
 | some fd, .ptr id off => match sizeB P fd.type with
  | some (_ + 1) => rv nx (.ptr id (off + fd.offset))
  | _ => none
 | _, _ => none
def doField (nx : Nat) (s : TypeId) (x : AV) (f : Nat) : Option R :=
 match fieldF P s f, x with
 | some fd, .agg l => rvO nx (partA P fd.type l fd.offset)
 | _, _ => none
def doIndexAddr (nx : Nat) (t : TypeId) (x i : AV) : Option R :=
 match i with
 | .int _ (.ofNat n) => match P.underlying t with
  | some (.slice e) => match x, sizeB P e with
   | .sl id off len _ _, some s => bif Nat.blt n len then rv nx (.ptr id (off + n * s)) else none
   | _, _ => none
  | some (.array len e) => match x, sizeB P e with
   | .ptr id off, some s => bif Nat.blt n len then rv nx (.ptr id (off + n * s)) else none
   | _, _ => none
  | _ => none
 | _ => none
def nthS (l : List Nat) (n : Nat) : Option Nat :=
 Nat.rec (motive := fun _ => List Nat → Option Nat) (fun l => List.rec (motive := fun _ => Option Nat) none (fun x _ _ => some x) l)
  (fun _ f l => List.rec (motive := fun _ => Option Nat) none (fun _ t _ => f t) l) n l
theorem nthS_n (n : Nat) : nthS [] n = none := by cases n <;> rfl
theorem nthS_z (x : Nat) (l : List Nat) : nthS (x :: l) 0 = some x := rfl
theorem nthS_c (x : Nat) (l : List Nat) (n : Nat) : nthS (x :: l) (n + 1) = nthS l n := rfl
def doIndex (nx : Nat) (t : TypeId) (x i : AV) : Option R :=
 match i with
 | .int _ (.ofNat n) => match P.underlying t with
  | some .string => match x with
   | .str s => match nthS s n with
    | some b => rv nx (.int .u8 (.ofNat b))
    | none => none
   | _ => none
  | some (.array len e) => match x, sizeB P e with
   | .agg l, some s => bif Nat.blt n len then rvO nx (partA P e l (n * s)) else none
   | _, _ => none
  | _ => none
 | _ => none
def fillA (place : Nat → Option (Nat × Nat)) : List (Nat × AV) → List AV → Option (List AV)
 | [], cells => some cells
 | (i, v) :: rest, cells =>
  match place i, cellsK v with
  | some (off, size), some cs =>
   bif Nat.beq cs.length size && Nat.ble (off + size) cells.length then match putL off cells cs with
    | some cells => fillA place rest cells
    | none => none
   else none
  | _, _ => none
def placeS (fs : Array Field) (i : Nat) : Option (Nat × Nat) :=
 match fs.toList[i]? with
 | some f => match sizeB P f.type with
  | some s => some (f.offset, s)
  | none => none
 | none => none
def placeA (s i : Nat) : Option (Nat × Nat) := some (i * s, s)
def sized (fs : Array Field) : Bool := fs.toList.all fun f => (sizeB P f.type).isSome
def doBuild (nx : Nat) (t : TypeId) (parts : List (Nat × AV)) : Option R :=
 match zeroA P t, P.underlying t with
 | some z, some (.struct fs) => bif sized P fs then match fillA (placeS P fs) parts z.cells with
   | some l => rv nx (.agg l)
   | none => none
  else none
 | some z, some (.array _ e) => match sizeB P e with
  | some s => match fillA (placeA s) parts z.cells with
   | some l => rv nx (.agg l)
   | none => none
  | none => none
 | _, _ => none
def doBuildSlice (nx : Nat) (t : TypeId) (len : Nat) (parts : List (Nat × AV)) : Option R :=
 match P.underlying t with
 | some (.slice el) => match sizeB P el, zeroA P el with
  | some s, some z => bif Nat.beq s 0 || (!Nat.beq z.cells.length s) || Nat.blt 1000000 (len * s) then none else
   match fillA (placeA s) parts (repl len z.cells) with
   | some l => rnew nx (.sl nx 0 len (some len) s) (.cells true false none l)
   | none => none
  | _, _ => none
 | _ => none
def doAlloc (nx : Nat) (t : TypeId) : Option R :=
 match zeroA P t with
 | some z => rnew nx (.ptr nx 0) (.cells true false (some t) z.cells)
 | none => none
def doBox (nx : Nat) (v : AV) : Option R :=
 match cellsK v with
 | some cs => rnew nx (.ptr nx 0) (.cells true false none cs)
 | none => none
def doMakeSlice (nx : Nat) (t : TypeId) (l c : AV) : Option R :=
 match P.underlying t, l, c with
 | some (.slice el), .int _ (.ofNat l), .int _ (.ofNat c) => match sizeB P el, bytesB P el, zeroA P el with
  | some s, some b, some z => bif Nat.beq s 0 || (!Nat.beq z.cells.length s) || Nat.blt c l || Nat.blt 1048576 (b * c) || Nat.blt 1048576 c then none else
   rnew nx (.sl nx 0 l (some c) s) (.cells true false (some el) (repl c z.cells))
  | _, _, _ => none
 | _, _, _ => none
def doMakeMap (nx : Nat) (t : TypeId) (r : Option AV) : Option R :=
 match P.underlying t, r with
 | some (.map _ _), none => rnew nx (.map nx) (.map true [] 0)
 | some (.map _ _), some (.int _ _) => rnew nx (.map nx) (.map true [] 0)
 | _, _ => none
def keyEq (kind : TypeDesc) (a b : AV) : Option Bool :=
 match kind, a, b with
 | .int _, .int k x, .int k' y => bif eqK k k' then some (eqI x y) else none
 | .string, .str x, .str y => some (eqS x y)
 | .bool, .bool x, .bool y => some (x == y)
 | _, _, _ => none
def findA (kind : TypeDesc) (k : AV) : List (AV × AV × Nat) → Nat → Option (Option (Nat × AV × Nat))
 | [], _ => some none
 | (k', v, b) :: es, i => match keyEq kind k k' with
  | some true => some (some (i, v, b))
  | some false => findA kind k es (i + 1)
  | none => none
def plainKey (kind : TypeDesc) (k : AV) : Bool :=
 match kind, k with
 | .int _, .int _ _ => true
 | .string, .str _ => true
 | .bool, .bool _ => true
 | _, _ => false
def setE : Nat → (AV × AV × Nat → AV × AV × Nat) → List (AV × AV × Nat) → List (AV × AV × Nat)
 | _, _, [] => []
 | 0, f, e :: es => f e :: es
 | n + 1, f, e :: es => e :: setE n f es
def delE : Nat → List (AV × AV × Nat) → List (AV × AV × Nat)
 | _, [] => []
 | 0, _ :: es => es
 | n + 1, e :: es => e :: delE n es
def bornE (b : Nat) : List (AV × AV × Nat) → Nat → Option Nat
 | [], _ => none
 | e :: es, i => bif Nat.beq e.2.2 b then some i else bornE b es (i + 1)
def entriesA (hp : Tr Blk) : AV → Option (List (AV × AV × Nat))
 | .nilm => some []
 | .map id => match hp.get id with
  | some (.map _ es _) => some es
  | _ => none
 | _ => none
def doLookup (hp : Tr Blk) (nx : Nat) (t : TypeId) (m k : AV) (ok : Bool) : Option R :=
 match P.underlying t with
 | some (.map kt et) => match P.underlying kt, entriesA hp m, zeroA P et with
  | some kind, some es, some z =>
   bif plainKey kind k then
    match findA kind k es 0 with
    | some (some (_, v, _)) => rv nx (bif ok then .tup [v, .bool true] else v)
    | some none => rv nx (bif ok then .tup [z, .bool false] else z)
    | none => none
   else none
  | _, _, _ => none
 | _ => none
def doMapSet (hp : Tr Blk) (nx : Nat) (t : TypeId) (m k v : AV) : Option R :=
 match P.underlying t, m with
 | some (.map kt _), .map id => match P.underlying kt, hp.get id with
  | some kind, some (.map true es c) =>
   bif plainKey kind k then
    match findA kind k es 0 with
    | some (some (i, _, _)) => rset nx unit id (.map true (setE i (fun e => (k, v, e.2.2)) es) c)
    | some none => rset nx unit id (.map true (es ++ [(k, v, c)]) (c + 1))
    | none => none
   else none
  | _, _ => none
 | _, _ => none
def doMapEntry (hp : Tr Blk) (nx : Nat) (t : TypeId) (m k : AV) : Option R :=
 match P.underlying t, m with
 | some (.map kt et), .map id => match P.underlying kt, hp.get id, zeroA P et with
  | some kind, some (.map true es c), some z =>
   bif plainKey kind k then
    match findA kind k es 0 with
    | some (some (i, v, b)) => rset nx (.tup [v, .int .i64 (.ofNat b)]) id (.map true (setE i (fun e => (k, e.2)) es) c)
    | some none => rset nx (.tup [z, .int .i64 (.ofNat c)]) id (.map true (es ++ [(k, z, c)]) (c + 1))
    | none => none
   else none
  | _, _, _ => none
 | _, _ => none
def doEntryStore (hp : Tr Blk) (nx : Nat) (m s v : AV) : Option R :=
 match m, s with
 | .map id, .int _ (.ofNat b) => match hp.get id with
  | some (.map true es c) => match bornE b es 0 with
   | some i => rset nx unit id (.map true (setE i (fun e => (e.1, v, e.2.2)) es) c)
   | none => none
  | _ => none
 | _, _ => none
def doDelete (hp : Tr Blk) (nx : Nat) (t : TypeId) (m k : AV) : Option R :=
 match P.underlying t, m with
 | some (.map kt _), .map id => match P.underlying kt, hp.get id with
  | some kind, some (.map true es c) =>
   bif plainKey kind k then
    match findA kind k es 0 with
    | some (some (i, _, _)) => rset nx unit id (.map true (delE i es) c)
    | some none => rset nx unit id (.map true es c)
    | none => none
   else none
  | _, _ => none
 | _, _ => none
def findU (kind : TypeDesc) (k : AV) : List (AV × AV) → Option (Option (List (AV × AV) × (AV × AV) × List (AV × AV)))
 | [] => some none
 | x :: es => match keyEq kind k x.1, findU kind k es with
  | some true, some none => some (some ([], x, es))
  | some false, some none => some none
  | some false, some (some (l1, y, l2)) => some (some (x :: l1, y, l2))
  | _, _ => none
def doLookupU (hp : Tr Blk) (nx : Nat) (t : TypeId) (m k : AV) (ok : Bool) : Option R :=
 match P.underlying t, m with
 | some (.map kt et), .map id => match P.underlying kt, hp.get id, zeroA P et with
  | some kind, some (.umap _ es _), some z =>
   bif plainKey kind k then
    match findU kind k es with
    | some (some (_, y, _)) => rv nx (bif ok then .tup [y.2, .bool true] else y.2)
    | some none => rv nx (bif ok then .tup [z, .bool false] else z)
    | none => none
   else none
  | _, _, _ => none
 | _, _ => none
def doMapSetU (hp : Tr Blk) (nx : Nat) (t : TypeId) (m k v : AV) : Option R :=
 match P.underlying t, m with
 | some (.map kt _), .map id => match P.underlying kt, hp.get id with
  | some kind, some (.umap true es c) =>
   bif plainKey kind k then
    match findU kind k es with
    | some (some (l1, _, l2)) => rset nx unit id (.umap true (l1 ++ (k, v) :: l2) c)
    | some none => rset nx unit id (.umap true (es ++ [(k, v)]) (c + 1))
    | none => none
   else none
  | _, _ => none
 | _, _ => none
def doDeleteU (hp : Tr Blk) (nx : Nat) (t : TypeId) (m k : AV) : Option R :=
 match P.underlying t, m with
 | some (.map kt _), .map id => match P.underlying kt, hp.get id with
  | some kind, some (.umap true es c) =>
   bif plainKey kind k then
    match findU kind k es with
    | some (some (l1, _, l2)) => rset nx unit id (.umap true (l1 ++ l2) c)
    | some none => rset nx unit id (.umap true es c)
    | none => none
   else none
  | _, _ => none
 | _, _ => none
def doLenU (hp : Tr Blk) (nx : Nat) (t : TypeId) (x : AV) : Option R :=
 match P.underlying t, x with
 | some (.map _ _), .map id => match hp.get id with
  | some (.umap _ es _) => rv nx (.int .i64 (.ofNat es.length))
  | _ => none
 | _, _ => none
def orE : Option R → Option R → Option R
 | some r, _ => some r
 | none, x => x
def firstA (hp : Tr Blk) (es n : Nat) : AV → Option (List AV)
 | .nils => some []
 | .sle => bif Nat.beq n 0 then some [] else none
 | .sl id off _ _ _ => match hp.get id with
  | some (.cells _ _ _ l) => sub l off (n * es)
  | _ => none
 | .str s => bif Nat.beq es 1 then some ((s.take n).map fun b => .int .u8 (.ofNat b)) else none
 | _ => none
def lenA : AV → Option Nat
 | .nils | .sle => some 0
 | .sl _ _ len _ _ => some len
 | .str s => some s.length
 | _ => none
def sameT (t : Option TypeId) (e : TypeId) : Option TypeId := match t with
 | some a => bif Nat.beq a e then some a else none
 | none => none
def appendTo (e : TypeId) (hp : Tr Blk) (nx es n : Nat) (new : List AV) : AV → Option R
 | .nils => bif Nat.beq n 0 then rv nx .nils else rnew nx (.sl nx 0 n none es) (.cells true true (some e) new)
 | .sl id off len cap es' =>
  bif Nat.beq es es' then
   match hp.get id with
   | some (.cells w o t l) =>
    match cap with
    | some c =>
     bif Nat.ble (len + n) c then
      bif Nat.beq n 0 then rv nx (.sl id off len (some c) es) else
      bif w then match putL (off + len * es) l new with
       | some l' => rset nx (.sl id off (len + n) (some c) es) id (.cells true o t l')
       | none => none
      else none
     else match sub l off (len * es) with
      | some old => rnew nx (.sl nx 0 (len + n) none es) (.cells true true (some e) (old ++ new))
      | none => none
    | none =>
     bif Nat.ble (off + (len + n) * es) l.length then
      bif Nat.beq n 0 then rv nx (.sl id off len none es) else
      bif w then match putL (off + len * es) l new with
       | some l' => rset nx (.sl id off (len + n) none es) id (.cells true o t l')
       | none => none
      else none
     else
      -- the room is not known: the old block is given up; what there is then lies at its old place or at a new one
      bif Nat.beq off 0 && w && o && Nat.beq (len * es) l.length then some ⟨.sl nx 0 (len + n) none es, [(id, none), (nx, some (.cells true true (sameT t e) (l ++ new)))], nx + 1⟩ else none
   | _ => none
  else none
 | _ => none
def doAppend (hp : Tr Blk) (nx : Nat) (sT xT : TypeId) (s x : AV) : Option R :=
 match P.underlying sT, P.underlying xT with
 | some (.slice e), some d => match d, sizeB P e, bytesB P e, zeroA P e, lenA x, lenA s with
  | .int _, _, _, _, _, _ => none
  | _, some es, some bytes, some z, some n, some m =>
   bif Nat.beq es 0 || (!Nat.beq z.cells.length es) || Nat.blt 65536 bytes || Nat.blt 1048576 (m + n) then none else
   match firstA hp es n x with
   | some new => bif Nat.beq new.length (n * es) then appendTo e hp nx es n new s else none
   | none => none
  | _, _, _, _, _, _ => none
 | _, _ => none
def doCopy (hp : Tr Blk) (nx : Nat) (dT : TypeId) (d s : AV) : Option R :=
 match P.underlying dT with
 | some (.slice e) => match sizeB P e, lenA s, lenA d with
  | some es, some n, some len =>
   let m := bif Nat.ble n len then n else len
   match firstA hp es m s with
   | some new => match d with
    | .nils => rv nx (.int .i64 0)
    | .sle => rv nx (.int .i64 0)
    | .sl id off _ _ _ => putB hp nx (.int .i64 (.ofNat m)) id off new
    | _ => none
   | none => none
  | _, _, _ => none
 | _ => none
def doClear (hp : Tr Blk) (nx : Nat) (t : TypeId) (x : AV) : Option R :=
 match P.underlying t with
 | some (.slice el) => match x with
  | .nils => rv nx unit
  | .sl id off n _ _ => match zeroA P el with
   | some z => bif Nat.beq n 0 then rv nx unit else putB hp nx unit id off (repl n z.cells)
   | none => none
  | _ => none
 | _ => none
def bytesOfCells : List AV → Option (List Nat)
 | [] => some []
 | .int .u8 (.ofNat n) :: l => match bytesOfCells l with
  | some r => bif Nat.blt n 256 then some (n :: r) else none
  | none => none
 | _ => none
def utf8Enc (n : Nat) : List Nat := ofBA (Utf8.encode (Int.ofNat n))
def doConvert (hp : Tr Blk) (nx : Nat) (src dst : TypeId) (x : AV) : Option R :=
 match P.underlying src, P.underlying dst with
 | some s, some (.int k) => match x with
  | .int _ n => rv nx (.int k (wrapA k n))
  | _ => match s with | _ => none
 | some _, some (.float k) => match x with
  | .int _ n => rv nx (.flt k (k.nearest n))
  | .flt s b => bif eqF s k then rv nx (.flt k b) else none
  | _ => none
 | some s, some .string => match x with
  | .str b => rv nx (.str b)
  | .int _ (.ofNat n) => rv nx (.str (utf8Enc n))
  | .nils => match s with
   | .slice e => match P.underlying e with
    | some (.int .u8) => rv nx (.str [])
    | _ => none
   | _ => none
  | .sl id off len _ _ => match s with
   | .slice e => match P.underlying e, hp.get id with
    | some (.int .u8), some (.cells _ _ _ l) => match sub l off len with
     | some cs => match bytesOfCells cs with
      | some b => rv nx (.str b)
      | none => none
     | none => none
    | _, _ => none
   | _ => none
  | _ => none
 | some _, some (.slice e) => match x, P.underlying e with
  | .str s, some (.int .u8) => bif Nat.blt s.length 1000000 then rnew nx (.sl nx 0 s.length none 1) (.cells true true (some e) (s.map fun b => .int .u8 (.ofNat b))) else none
  | _, _ => none
 | some (.pointer t), some .unsafePointer => match x, sizeB P t with
  | .ptr id off, some (_ + 1) => match hp.get id with
   | some (.cells _ _ _ l) => bif Nat.blt off l.length then rv nx (.ptr id off) else none
   | _ => none
  | _, _ => none
 | some .unsafePointer, some (.pointer u) => match x, sizeB P u with
  | .ptr id off, some _ => match hp.get id with
   | some (.cells _ false (some t) l) => bif liesAt P P.depth t (l.length / P.cellsOf t) off u 1 then rv nx (.ptr id off) else none
   | _ => none
  | _, _ => none
 | _, _ => none
def doMakeIface (nx : Nat) (t : TypeId) (x : AV) : Option R :=
 match P.underlying t with
 | some (.interface _) | none => none
 | some _ => rv nx (.iface t x)
def doAssert (nx : Nat) (x : AV) (asserted : TypeId) (ok : Bool) : Option R :=
 match P.underlying asserted, x with
 | some (.interface _), _ => none
 | some _, .nili => bif ok then match zeroA P asserted with
   | some z => rv nx (.tup [z, .bool false])
   | none => none
  else none
 | some _, .iface t v =>
  bif Nat.beq t asserted then rv nx (bif ok then .tup [v, .bool true] else v)
  else bif ok then match zeroA P asserted with
   | some z => rv nx (.tup [z, .bool false])
   | none => none
  else none
 | _, _ => none
def doRange (hp : Tr Blk) (nx : Nat) (t : TypeId) (x : AV) : Option R :=
 match P.underlying t, x with
 | some .string, .str s => rnew nx (.ptr nx 0) (.siter s 0)
 | some (.map _ _), .nilm => rnew nx (.ptr nx 0) (.miter none 0 [] 0)
 | some (.map _ _), .map id => match hp.get id with
  | some (.map _ _ c) => rnew nx (.ptr nx 0) (.miter (some id) c [] c)
  | _ => none
 | _, _ => none
def hasB (x : Nat) : List Nat → Bool
 | [] => false
 | y :: l => bif Nat.beq x y then true else hasB x l
def leftA (seen : List Nat) : List (AV × AV × Nat) → List (AV × AV × Nat)
 | [] => []
 | e :: es => bif hasB e.2.2 seen then leftA seen es else e :: leftA seen es
def oldA (since : Nat) : List (AV × AV × Nat) → Bool
 | [] => true
 | e :: es => bif Nat.blt e.2.2 since then oldA since es else false
def pickR (nx id m since : Nat) (seen : List Nat) (c : Nat) (e : AV × AV × Nat) : R := ⟨.tup [.bool true, e.1, e.2.1], [(id, some (.miter (some m) since (seen ++ [e.2.2]) c))], nx⟩
def pickRs (nx id m since : Nat) (seen : List Nat) (c : Nat) : List (AV × AV × Nat) → List R
 | [] => []
 | e :: es => pickR nx id m since seen c e :: pickRs nx id m since seen c es
def picks (hp : Tr Blk) (nx : Nat) (it : AV) (isS : Bool) : Option (List R) :=
 match it, isS with
 | .ptr id 0, false => match hp.get id with
  | some (.miter (some m) since seen st) => match hp.get m with
   | some (.map _ es c) => bif oldA since es && Nat.ble since st then some (pickRs nx id m since seen c (leftA seen es)) else none
   | _ => none
  | _ => none
 | _, _ => none
def lastN : List Nat → Option Nat
 | [] => none
 | [x] => some x
 | _ :: l => lastN l
def bornV (b : Nat) : List (AV × AV × Nat) → Option AV
 | [] => none
 | e :: es => bif Nat.beq e.2.2 b then some (.tup [e.1, e.2.1]) else bornV b es
def doEntry (hp : Tr Blk) (nx : Nat) (it : AV) : Option R :=
 match it with
 | .ptr id 0 => match hp.get id with
  | some (.miter (some m) _ seen st) => match hp.get m, lastN seen with
   | some (.map _ es c), some b => bif Nat.beq c st then rvO nx (bornV b es) else none
   | _, _ => none
  | _ => none
 | _ => none
def doNext (hp : Tr Blk) (nx : Nat) (it : AV) (isS : Bool) : Option R :=
 match it, isS with
 | .ptr id 0, true => match hp.get id with
  | some (.siter s pos) => match nthS s pos with
   | none => rv nx (.tup [.bool false])
   | some b => bif Nat.blt b 128 then rset nx (.tup [.bool true, .int .i64 (.ofNat pos), .int .i32 (.ofNat b)]) id (.siter s (pos + 1)) else none
  | _ => none
 | .ptr id 0, false => match hp.get id with
  | some (.miter none _ _ _) => rv nx (.tup [.bool false])
  | some (.miter (some _) _ _ _) => match picks hp nx it isS with
   | some [] => rv nx (.tup [.bool false])
   | some [r] => some r
   | _ => none
  | _ => none
 | _, _ => none
def foldI (f : Int → Int → Int) : Int → List AV → Option Int
 | x, [] => some x
 | x, .int _ y :: l => foldI f (f x y) l
 | _, _ => none
def maxI (x y : Int) : Int := bif ltI x y then y else x
def minI (x y : Int) : Int := bif ltI y x then y else x
def doLen (hp : Tr Blk) (nx : Nat) (t : TypeId) (x : AV) : Option R :=
 match P.underlying t with
 | some .string => match x with
  | .str s => rv nx (.int .i64 (.ofNat s.length))
  | _ => none
 | some (.array n _) => rv nx (.int .i64 (.ofNat n))
 | some (.slice _) => match x with
  | .nils => rv nx (.int .i64 0)
  | .sle => rv nx (.int .i64 0)
  | .sl _ _ n _ _ => rv nx (.int .i64 (.ofNat n))
  | _ => none
 | some (.map _ _) => match entriesA hp x with
  | some es => rv nx (.int .i64 (.ofNat es.length))
  | none => none
 | _ => none
def doCap (nx : Nat) (t : TypeId) (x : AV) : Option R :=
 match P.underlying t, x with
 | some (.slice _), .nils => rv nx (.int .i64 0)
 | some (.slice _), .sl _ _ _ (some n) _ => rv nx (.int .i64 (.ofNat n))
 | _, _ => none
def doData (hp : Tr Blk) (nx : Nat) : AV → Option R
 | .nils => rv nx .nilp
 | .sl id off _ none _ => match hp.get id with
  | some (.cells _ _ _ l) => bif Nat.blt off l.length then rv nx (.ptr id off) else none
  | _ => none
 | _ => none
def doUStr (hp : Tr Blk) (nx : Nat) (pt : TypeId) (x y : AV) : Option R :=
 match y with
 | .int .i64 (.ofNat 0) => match x with
  | .nilp => rv nx (.str [])
  | .ptr _ _ => rv nx (.str [])
  | _ => none
 | .int .i64 (.ofNat n) => match x with
  | .ptr id 0 => match P.underlying pt, hp.get id with
   | some (.pointer e), some (.cells true _ (some t) l) =>
    bif Nat.beq t e && Nat.beq (P.cellsOf e) 1 && Nat.blt n 1000000 then
     match sub l 0 n with
     | some cs => match bytesOfCells cs with
      | some b => some ⟨.str b, [(id, none)], nx⟩
      | none => none
     | none => none
    else none
   | _, _ => none
  | _ => none
 | _ => none
def doBuiltin (hp : Tr Blk) (nx : Nat) (b : Builtin) (ts : List TypeId) (xs : List AV) : Option R :=
 match b, ts, xs with
 | .append, [t, u], [s, x] => doAppend P hp nx t u s x
 | .len, [t], [x] => orE (doLen P hp nx t x) (doLenU P hp nx t x)
 | .cap, [t], [x] => doCap P nx t x
 | .copy, [t, _], [d, s] => doCopy P hp nx t d s
 | .delete, [t, _], [m, k] => orE (doDelete P hp nx t m k) (doDeleteU P hp nx t m k)
 | .clear, [t], [x] => doClear P hp nx t x
 | .max, _, .int k x :: l => match foldI maxI x l with
  | some n => rv nx (.int k n)
  | none => none
 | .min, _, .int k x :: l => match foldI minI x l with
  | some n => rv nx (.int k n)
  | none => none
 | .max, _, .flt k x :: l => match foldF (maxF k) x l with
  | some n => rv nx (.flt k n)
  | none => none
 | .min, _, .flt k x :: l => match foldF (minF k) x l with
  | some n => rv nx (.flt k n)
  | none => none
 | .unsafeSliceData, _, [x] => doData hp nx x
 | .unsafeString, [pt, _], [x, y] => doUStr P hp nx pt x y
 | _, _, _ => none
def doPick (nx : Nat) (c a b : AV) : Option R :=
 match c with
 | .bool true => rv nx a
 | .bool false => rv nx b
 | _ => none
def doNilCheck (nx : Nat) (x : AV) : Option R :=
 match x with
 | .ptr id off => rv nx (.ptr id off)
 | .fn f a b => rv nx (.fn f a b)
 | .iface t v => rv nx (.iface t v)
 | _ => none
def doExtract (nx : Nat) (t : AV) (i : Nat) : Option R :=
 match t with
 | .tup l => rvO nx l[i]?
 | _ => none
def doMakeFunc (nx : Nat) (f : Fn) (a b : List AV) : Option R :=
 match f with
 | .func g => rv nx (.fn g a b)
 | _ => none
def parts (tm : Tr AV) (ps : Array (Nat × Operand)) : List (Nat × AV) := ps.toList.map fun p => (p.1, ev G tm p.2)
def evs (tm : Tr AV) (xs : Array Operand) : List AV := List.rec (motive := fun _ => List AV) [] (fun x _ r => ev G tm x :: r) xs.toList
theorem evs_eq (tm : Tr AV) (xs : Array Operand) : evs G tm xs = xs.toList.map (ev G tm) := by
 unfold evs
 generalize xs.toList = l
 induction l with
 | nil => rfl
 | cons x l ih => exact congrArg (ev G tm x :: ·) ih
end
def aopM (op : Op) : Program → Nat → Tr AV → Tr Blk → Nat → Option R :=
 Op.rec (motive := fun _ => Program → Nat → Tr AV → Tr Blk → Nat → Option R)
  (fun x P G tm hp nx => rv nx (ev G tm x))
  (fun x P G tm hp nx => rv nx (ev G tm x))
  (fun c a b P G tm hp nx => doPick nx (ev G tm c) (ev G tm a) (ev G tm b))
  (fun t P G tm hp nx => doAlloc P nx t)
  (fun _ x P G tm hp nx => doBox nx (ev G tm x))
  (fun t ps P G tm hp nx => doBuild P nx t (parts G tm ps))
  (fun t len ps P G tm hp nx => doBuildSlice P nx t len (parts G tm ps))
  (fun t m k v P G tm hp nx => orE (doMapSet P hp nx t (ev G tm m) (ev G tm k) (ev G tm v)) (doMapSetU P hp nx t (ev G tm m) (ev G tm k) (ev G tm v)))
  (fun t a P G tm hp nx => rvO nx (loadA P hp t (ev G tm a)))
  (fun t a x P G tm hp nx => doStore P hp nx t (ev G tm a) (ev G tm x))
  (fun _ _ _ _ _ _ => none)
  (fun _ _ _ _ _ _ => none)
  (fun x P G tm hp nx => doNilCheck nx (ev G tm x))
  (fun op t x y _ P G tm hp nx => bif guardA op x y (ev G tm x) (ev G tm y) then rvO nx (binS P op t (ev G tm x) (ev G tm y)) else none)
  (fun op _ x P G tm hp nx => rvO nx (unA op (ev G tm x)))
  (fun s d x P G tm hp nx => doConvert P hp nx s d (ev G tm x))
  (fun _ _ _ _ _ _ _ => none)
  (fun t x P G tm hp nx => doMakeIface P nx t (ev G tm x))
  (fun f a b P G tm hp nx => doMakeFunc nx f (evs G tm a) (evs G tm b))
  (fun t r P G tm hp nx => doMakeMap P nx t (r.map (ev G tm)))
  (fun _ _ _ _ _ _ _ => none)
  (fun t l c P G tm hp nx => doMakeSlice P nx t (ev G tm l) (ev G tm c))
  (fun t x lo hi mx P G tm hp nx => doSlice P hp nx t (ev G tm x) (lo.map (ev G tm)) (hi.map (ev G tm)) (mx.map (ev G tm)))
  (fun s x f P G tm hp nx => doFieldAddr P nx s (ev G tm x) f)
  (fun s x f P G tm hp nx => doField P nx s (ev G tm x) f)
  (fun t x i P G tm hp nx => doIndexAddr P nx t (ev G tm x) (ev G tm i))
  (fun t x i P G tm hp nx => doIndex P nx t (ev G tm x) (ev G tm i))
  (fun t x i ok P G tm hp nx => orE (doLookup P hp nx t (ev G tm x) (ev G tm i) ok) (doLookupU P hp nx t (ev G tm x) (ev G tm i) ok))
  (fun t m k v P G tm hp nx => orE (doMapSet P hp nx t (ev G tm m) (ev G tm k) (ev G tm v)) (doMapSetU P hp nx t (ev G tm m) (ev G tm k) (ev G tm v)))
  (fun t m k P G tm hp nx => doMapEntry P hp nx t (ev G tm m) (ev G tm k))
  (fun _ m s v P G tm hp nx => doEntryStore hp nx (ev G tm m) (ev G tm s) (ev G tm v))
  (fun t x P G tm hp nx => doRange P hp nx t (ev G tm x))
  (fun it isS P G tm hp nx => doNext hp nx (ev G tm it) isS)
  (fun it P G tm hp nx => doEntry hp nx (ev G tm it))
  (fun x _ asserted ok P G tm hp nx => doAssert P nx (ev G tm x) asserted ok)
  (fun t i P G tm hp nx => doExtract nx (ev G tm t) i)
  (fun c P G tm hp nx => match c.callee with
  | .builtin b => doBuiltin P hp nx b c.argTypes.toList (evs G tm c.args)
  | _ => none)
  (fun _ _ _ _ _ _ => none)
  (fun _ _ _ _ _ _ => none)
  (fun _ _ _ _ _ _ => none)
  (fun _ _ _ _ _ _ _ => none)
  (fun _ _ _ _ _ _ _ _ => none)
  (fun _ _ _ _ _ _ _ => none)
  op
section
variable (P : Program) (G : Nat) (X : FuncId → Option ExtK)
def aop (tm : Tr AV) (hp : Tr Blk) (nx : Nat) (o : Oper) : Option R := aopM o.op P G tm hp nx
def countS (c : Nat) : List Nat → Nat
 | [] => 0
 | x :: l => bif Nat.beq x c then countS c l + 1 else countS c l
def indexS (c : Nat) : List Nat → Nat → Option Nat
 | [], _ => none
 | x :: l, i => bif Nat.beq x c then some i else indexS c l (i + 1)
def insA (hp : Tr Blk) (nx id off len es i idv offv lenv esv : Nat) : Option R :=
 match hp.get id, hp.get idv with
 | some (.cells true _ _ l), some (.cells _ false _ lv) =>
  bif Nat.beq off 0 && Nat.beq es 1 && Nat.beq esv 1 && Nat.beq lenv 1 && Nat.beq l.length len && Nat.blt i len && !Nat.beq id idv && Nat.blt len 1000000 then
   match dropL offv lv with
   | x :: _ => match cellsK x with
    | some _ => some ⟨.sl nx 0 (len + 1) none 1, [(id, none), (nx, some (.cells true true none (l.take i ++ x :: l.drop i)))], nx + 1⟩
    | none => none
   | [] => none
  else none
 | _, _ => none
def eqFl : List AV → List AV → Bool
 | [], [] => true
 | .int k x :: l, .int k' y :: m => bif eqK k k' && eqI x y then eqFl l m else false
 | .str x :: l, .str y :: m => bif eqS x y then eqFl l m else false
 | .bool x :: l, .bool y :: m => bif x == y then eqFl l m else false
 | _, _ => false
def heldB (hp : Tr Blk) : List (Nat × List AV) → Bool
 | [] => true
 | p :: L => match hp.get p.1 with
  | some (.cells false false none l) => bif eqFl p.2 l then heldB hp L else false
  | _ => false
def extA (G : Nat) (hp : Tr Blk) (nx : Nat) : ExtK → List AV → Option R
 | .count, [.str s, .int .u8 (.ofNat c)] => bif Nat.blt c 256 then rv nx (.int .i64 (.ofNat (countS c s))) else none
 | .indexByte, [.str s, .int .u8 (.ofNat c)] => bif Nat.blt c 256 then match indexS c s 0 with
  | some i => rv nx (.int .i64 (.ofNat i))
  | none => rv nx (.int .i64 (-1))
  else none
 | .same, [x] => rv nx x
 | .fbits, [.int .u64 (.ofNat n)] => rv nx (.flt .f64 n)
 | .compare, [.str a, .str b] => rv nx (.int .i64 (bif eqS a b then 0 else bif ltS a b then -1 else 1))
 | .makeNoZero e, [.int .i64 (.ofNat n)] => bif Nat.blt n 1048576 then rnew nx (.sl nx 0 n none 1) (.cells true true (some e) (repl n [.junk])) else none
 | .insert, [.sl id off len none es, .int .i64 (.ofNat i), .sl idv offv lenv _ esv] => insA hp nx id off len es i idv offv lenv esv
 | .tiny t, [.iface t' (.sl _ _ n _ _), .fn _ _ _] => bif Nat.beq t' t && Nat.blt n 2 then rv nx unit else none
 | .yes G0 L, [] => bif Nat.ble G0 G && heldB hp L then rv nx (.bool true) else none
 | _, _ => none
inductive Callk where
 | func (f : FuncId) (args : List AV)
 | yield (id : Nat) (args : List AV)
def methodA (t : TypeId) (v : AV) (name : String) : Option (FuncId × AV) :=
 match P.info? t with
 | some i => match i.methods.find? (·.name == name) with
  | some m => bif m.path.isEmpty then
    match m.func, P.underlying t with
    | some (f, true), some (.pointer _) => some (f, v)
    | some (_, false), some (.pointer _) => none
    | some (f, false), some _ => some (f, v)
    | _, _ => none
   else none
  | none => none
 | none => none
def calleeA (tm : Tr AV) (c : Call) : Option Callk :=
 match c.callee with
 | .value f => match ev G tm f with
  | .fn g first cap => some (.func g (first ++ evs G tm c.args ++ cap))
  | .yl id => some (.yield id (evs G tm c.args))
  | _ => none
 | .invoke r n => match ev G tm r with
  | .iface t v => match methodA P t v n with
   | some (g, r) => some (.func g (r :: evs G tm c.args))
   | none => none
  | _ => none
 | .builtin _ => none
def putTmps (l : List AV) : Nat → Tr AV → Tr AV :=
 List.rec (motive := fun _ => Nat → Tr AV → Tr AV) (fun _ tm => tm) (fun x _ f i tm => f (Nat.succ i) (tm.set i (some x))) l
theorem putTmps_n (i : Nat) (tm : Tr AV) : putTmps [] i tm = tm := rfl
theorem putTmps_c (x : AV) (l : List AV) (i : Nat) (tm : Tr AV) : putTmps (x :: l) i tm = putTmps l (i + 1) (tm.set i (some x)) := rfl
def enterA (f : FuncId) (args : List AV) : Option Fr :=
 match P.funcs[f]? with
 | some fn => match fn.body with
  | some c => bif Nat.ble args.length fn.ntmps then some { fn := f, sz := fn.ntmps, tm := putTmps args 0 .lf, todo := [.code c], df := [], rd := none, ret := false } else none
  | none => none
 | none => none
def putPs : List Tmp → List AV → Tr AV → Tr AV
 | p :: ps, a :: as, tm => putPs ps as (tm.set p (some a))
 | _, _, tm => tm
def roundA (hp : Tr Blk) (id : Nat) (args : List AV) : Option Fr :=
 match hp.get id with
 | some (.loop _ _ fn sz tm ps assign body _) =>
  bif Nat.beq args.length ps.length && ps.all (Nat.blt · sz) then
   some { fn, sz, tm := putPs ps args tm, todo := [.code assign, .begR, .code body], df := [], rd := some id, ret := false }
  else none
 | _ => none
def finishA (fr : Fr) (v : AV) : Option Fr :=
 match fr.todo with
 | .inReg ops k (o :: rest) :: t =>
  match o.dst with
  | some d => bif Nat.blt d fr.sz then some { fr with tm := fr.tm.set d (some v), todo := .inReg ops (k + 1) rest :: t } else none
  | none => some { fr with todo := .inReg ops (k + 1) rest :: t }
 | .inRF id :: t => some { fr with todo := .endRF id :: t }
 | _ => none
def exitI (a : AI) : Nat → List AI → Option (List AI) → Option (List AI) :=
 AI.rec (motive := fun _ => Nat → List AI → Option (List AI) → Option (List AI)) (fun _ _ _ r => r) (fun id' id k r => cond (Nat.beq id' id) (some k) r) (fun _ _ _ r => r) (fun _ _ _ r => r) (fun _ _ _ _ _ r => r) (fun _ _ _ r => r) (fun _ _ _ r => r) (fun _ _ r => r) (fun _ _ r => r) a
def exitA (id : Nat) (l : List AI) : Option (List AI) := List.rec (motive := fun _ => Option (List AI)) none (fun a k r => exitI a id k r) l
theorem exitA_blk (id id' : Nat) (k : List AI) : exitA id (.inBlock id' :: k) = (bif Nat.beq id' id then some k else exitA id k) := rfl
def gotoA (l : Nat) : List AI → Option (List AI)
 | .inScope body :: k => match findLabel body l with
  | some rest => some (.code rest :: .inScope body :: k)
  | none => gotoA l k
 | _ :: k => gotoA l k
 | [] => none
def noStop (l : List AI) : Bool := List.rec (motive := fun _ => Bool) true (fun a _ r => AI.rec (motive := fun _ => Bool → Bool) (fun _ r => r) (fun _ r => r) (fun _ r => r) (fun _ r => r) (fun _ _ _ r => r) (fun _ r => r) (fun _ r => r) (fun r => r) (fun _ => false) a r) l
theorem noStop_cons {a : AI} {l : List AI} (h : noStop (a :: l) = true) : noStop l = true := by cases a <;> first | exact h | cases h
def isStopV : AV → Bool
 | .stopv => true
 | _ => false
def wantedA (tm : Tr AV) (ops : Array Oper) (o : Oper) : Option Bool :=
 match o.guard with
 | none => some true
 | some (j, want) => match (ops.toList[j]?).bind (·.dst) with
  | some d => match tm.get d with
   | some (.bool b) => some (b == want)
   | some (.tup _) => some false
   | _ => none
  | none => none
def resA (hp : Tr Blk) (tm : Tr AV) : List ResultVar → Option (List AV)
 | [] => some []
 | .tmp t :: r => match resA hp tm r with
  | some l => some (slot tm t :: l)
  | none => none
 | .cell a t :: r => match loadA P hp t (slot tm a), resA hp tm r with
  | some v, some l => some (v :: l)
  | _, _ => none
def resultsA (hp : Tr Blk) (fn : Func) (tm : Tr AV) : Option AV :=
 match resA P hp tm fn.results.toList with
 | some [v] => some v
 | some l => some (.tup l)
 | none => none
def St.turn (s : St) (dl : List (Nat × Option Blk)) (nx : Nat) : St := { s with hp := app dl s.hp, nx, wl := logs s.lb dl s.wl }
def leaveA (s : St) (jump : Option Code) : Out :=
 match s.fr.rd with
 | none => match jump with
  | none | some .ret => .go { s with fr := { s.fr with ret := true } }
  | _ => .fail "jump"
 | some id => match s.hp.get id with
  | some (.loop _ _ fn sz tm ps a b d) =>
   let s1 := s.turn [(id, some (.loop (bif jump.isNone then .ready else .done) jump fn sz tm ps a b d))] s.nx
   match s.cs with
   | c :: cs => match finishA c (.bool jump.isNone) with
    | some c => .go { s1 with fr := c, cs }
    | none => .fail "round's end"
   | [] => .done (.bool jump.isNone) s1
  | _ => .fail "round's record"
def rangeA (s : St) (f : AV) (ps : Array Tmp) (assign body : Code) (k : List AI) : Out :=
 match f with
 | .fn g first cap => match s.fr.rd with
  | none => match enterA P g (first ++ [.yl (s.nx + 1)] ++ cap) with
   | some fr' =>
    let s1 := s.turn [(s.nx, some .dfr), (s.nx + 1, some (.loop .ready none s.fr.fn s.fr.sz s.fr.tm ps.toList assign body s.nx))] (s.nx + 2)
    .go { s1 with fr := fr', cs := { s.fr with todo := .inRF (s.nx + 1) :: k, df := s.nx :: s.fr.df } :: s.cs }
   | none => .fail "range over a function: no function"
  | some l => match s.hp.get l with
   | some (.loop _ _ _ _ _ _ _ _ d) => match enterA P g (first ++ [.yl s.nx] ++ cap) with
    | some fr' =>
     let s1 := s.turn [(s.nx, some (.loop .ready none s.fr.fn s.fr.sz s.fr.tm ps.toList assign body d))] (s.nx + 1)
     .go { s1 with fr := fr', cs := { s.fr with todo := .inRF s.nx :: k } :: s.cs }
    | none => .fail "range over a function: no function"
   | _ => .fail "no record"
 | _ => .fail "range over a function"
def codeA (s : St) (c : Code) (k : List AI) : Out :=
 match c with
 | .skip => .go { s with fr := { s.fr with todo := k } }
 | .label _ => .go { s with fr := { s.fr with todo := k } }
 | .seq a b => .go { s with fr := { s.fr with todo := .code a :: .code b :: k } }
 | .cond c a b => match ev G s.fr.tm c with
  | .bool true => .go { s with fr := { s.fr with todo := .code a :: k } }
  | .bool false => .go { s with fr := { s.fr with todo := .code b :: k } }
  | _ => .fail "cond"
 | .block id b => .go { s with fr := { s.fr with todo := .code b :: .inBlock id :: k } }
 | .loop b => .go { s with fr := { s.fr with todo := .code b :: .inLoop b :: k } }
 | .scope b => .go { s with fr := { s.fr with todo := .code b :: .inScope b :: k } }
 | .exit id => match exitA id k with
  | some k => .go { s with fr := { s.fr with todo := k } }
  | none => bif noStop k then leaveA s (some (.exit id)) else .fail "stop"
 | .goto l => match gotoA l k with
  | some k => .go { s with fr := { s.fr with todo := k } }
  | none => bif noStop k then leaveA s (some (.goto l)) else .fail "stop"
 | .ret => leaveA s (some .ret)
 | .region _ ops false => .go { s with fr := { s.fr with todo := .inReg ops 0 ops.toList :: k } }
 | .region _ ops true => .draw ops k
 | .rangeFunc f ps assign body => rangeA P s (ev G s.fr.tm f) ps assign body k
 | .refuse w => .fail w
def finR (d : Option Tmp) (sz : Nat) (tm : Tr AV) (todo : List AI) (v : AV) : Option (Tr AV × List AI) :=
 Option.rec (motive := fun _ => Option (Tr AV × List AI)) (some (tm, todo)) (fun d => cond (Nat.blt d sz) (some (tm.set d (some v), todo)) none) d
def finI (a : AI) : List AI → Nat → Tr AV → AV → Option (Tr AV × List AI) :=
 AI.rec (motive := fun _ => List AI → Nat → Tr AV → AV → Option (Tr AV × List AI)) (fun _ _ _ _ _ => none) (fun _ _ _ _ _ => none) (fun _ _ _ _ _ => none) (fun _ _ _ _ _ => none)
  (fun ops k r t sz tm v => List.rec (motive := fun _ => Option (Tr AV × List AI)) none (fun o rest _ => finR o.dst sz tm (.inReg ops (k + 1) rest :: t) v) r)
  (fun id t _ tm _ => some (tm, .endRF id :: t)) (fun _ _ _ _ _ => none) (fun _ _ _ _ => none) (fun _ _ _ _ => none) a
def finF (sz : Nat) (tm : Tr AV) (todo : List AI) (v : AV) : Option (Tr AV × List AI) :=
 List.rec (motive := fun _ => Option (Tr AV × List AI)) none (fun a t _ => finI a t sz tm v) todo
def putV (s : St) (v : AV) : Out :=
 match finishA s.fr v with
 | some fr => .go { s with fr }
 | none => .fail "finish"
def extO (hp : Tr Blk) (nx : Nat) (g : FuncId) (args : List AV) : Option R :=
 match X g with
 | some k => extA G hp nx k args
 | none => none
def callA (s : St) : Callk → Out
 | .func g args => match extO G X s.hp s.nx g args with
  | some r => putV (s.turn r.dl r.nx) r.v
  | none => match enterA P g args with
   | some fr' => .go { s with fr := fr', cs := s.fr :: s.cs }
   | none => .fail "enter"
 | .yield id args => match roundA s.hp id args with
  | some fr' => .go { s with fr := fr', cs := s.fr :: s.cs }
  | none => .fail "round"
def operA (s : St) (o : Oper) : Out :=
 match aop P G s.fr.tm s.hp s.nx o with
 | some r => putV (s.turn r.dl r.nx) r.v
 | none => match o.op with
  | .call c => match calleeA P G s.fr.tm c with
   | some k => callA P G X s k
   | none => .fail "callee"
  | .next it isS => match picks s.hp s.nx (ev G s.fr.tm it) isS with
   | some l => .pick l
   | none => .fail "next"
  | _ => .fail "op"
def retA (s : St) : Out :=
 match s.fr.df with
 | d :: ds => match s.hp.get d with
  | some .dfr =>
   let s1 := s.turn [(d, none)] s.nx
   .go { s1 with fr := { s.fr with df := ds } }
  | _ => .fail "deferred"
 | [] => match P.funcs[s.fr.fn]? with
  | some fn => match resultsA P s.hp fn s.fr.tm with
   | some v => match s.cs with
    | [] => .done v s
    | c :: cs => match finishA c v with
     | some c => .go { s with fr := c, cs }
     | none => .fail "finish"
   | none => .fail "results"
  | none => .fail "no function"
def begA (s : St) (k : List AI) : Out :=
 match s.fr.rd with
 | some id => match s.hp.get id with
  | some (.loop .ready pend fn sz tm ps a b d) =>
   let s1 := s.turn [(id, some (.loop .busy pend fn sz tm ps a b d))] s.nx
   .go { s1 with fr := { s.fr with todo := k } }
  | _ => .fail "begin round"
 | none => .fail "begin round"
def endRFA (s : St) (id : Nat) (k : List AI) : Out :=
 match s.hp.get id with
 | some (.loop st pend fn sz tm ps a b d) => match st with
  | .busy => .fail "busy"
  | _ =>
   let s1 := s.turn [(id, some (.loop .exhausted pend fn sz tm ps a b d))] s.nx
   .go { s1 with fr := { s.fr with todo := match pend with | some c => .code c :: k | none => k } }
 | _ => .fail "end of range"
def stopA (s : St) (k : List AI) : Out :=
 match k, s.cs with
 | [], [] => .stop s
 | _, _ => .fail "stop"
def todoA (s : St) : Out :=
 match s.fr.todo with
 | .inReg ops _ (o :: _) :: _ => match wantedA s.fr.tm ops o with
  | some true => operA P G X s o
  | some false => putV s unit
  | none => .fail "guard"
 | .inReg _ _ [] :: k => .go { s with fr := { s.fr with todo := k } }
 | .code c :: k => codeA P G s c k
 | .inBlock _ :: k => .go { s with fr := { s.fr with todo := k } }
 | .inScope _ :: k => .go { s with fr := { s.fr with todo := k } }
 | .inLoop b :: k => .go { s with fr := { s.fr with todo := .code b :: .inLoop b :: k } }
 | .begR :: k => begA s k
 | .endRF id :: k => endRFA s id k
 | .inRF _ :: _ => .fail "in range"
 | .stop :: k => stopA s k
 | [] => leaveA s none
def stp (s : St) : Out :=
 match s.fr.ret with
 | true => retA P s
 | false => todoA P G X s
structure Rec where
 i : Nat
 ft : Option (List Nat)
 nx : Nat
 lg : List Nat
def hasN (x : Nat) : List Nat → Bool
 | [] => false
 | y :: l => bif Nat.beq x y then true else hasN x l
def apartN : List Nat → List Nat → Bool
 | [], _ => true
 | x :: l, m => bif hasN x m then false else apartN l m
def allGe (n : Nat) : List Nat → Bool
 | [] => true
 | x :: l => bif Nat.ble n x then allGe n l else false
def footV : AV → List Nat
 | .ptr id _ => [id]
 | .sl id _ _ _ _ => [id]
 | .map id => [id]
 | _ => []
def footVs : List AV → List Nat
 | [] => []
 | v :: l => footV v ++ footVs l
def footO (tm : Tr AV) (o : Oper) : List Nat :=
 match o.op with
 | .load .. | .store .. | .slice .. | .lookup .. | .mapUpdate .. | .insert .. | .mapEntry .. | .entryStore .. | .next .. | .range .. | .convert .. | .call _ => footVs (o.op.operands.toList.map (ev G tm))
 | _ => []
def restrictA (hp : Tr Blk) (ex : List Nat) : List Nat → Tr Blk → Tr Blk
 | [], acc => acc
 | x :: l, acc => bif hasN x ex then restrictA hp ex l acc else restrictA hp ex l (acc.set x (hp.get x))
def without : List Nat → Tr Blk → Tr Blk
 | [], hp => hp
 | x :: l, hp => without l (hp.set x none)
def fromTo (a : Nat) : Nat → List Nat
 | 0 => []
 | n + 1 => a :: fromTo (a + 1) n
def changes (hp : Tr Blk) : List Nat → List (Nat × Option Blk)
 | [] => []
 | x :: l => (x, hp.get x) :: changes hp l
def looseA (b : Nat) : List Rec → List Rec
 | [] => []
 | r :: l => bif Nat.testBit b r.i then looseA b l else r :: looseA b l
def logsOf : List Rec → List Nat
 | [] => []
 | r :: l => r.lg ++ logsOf l
def besideA (ops : Array Oper) (o : Oper) (lg : List Nat) : List Rec → Bool
 | [] => true
 | r :: l =>
  bif (match r.ft with | none => allGe r.nx lg | some ft => apartN lg ft) && apartN lg r.lg && (match ops[r.i]? with | some x => Oper.apart ops x o | none => false)
  then besideA ops o lg l else false
def drawPut (ops : Array Oper) (i : Nat) (recs : List Rec) (us : List Rec) (s : St) (o : Oper) (ft : Option (List Nat)) (dl : List (Nat × Option Blk)) (nx : Nat) (v : AV) : Option (List Rec × St) :=
 bif besideA ops o (dl.map (·.1)) us then
  match s with
  | ⟨⟨fn, sz, tm, todo, df, rd, ret⟩, cs, hp, nx0, lb, wl⟩ => match finF sz tm todo v with
   | some (tm', todo') => match dl with
    | [] => some (⟨i, ft, nx0, []⟩ :: recs, ⟨⟨fn, sz, tm', todo', df, rd, ret⟩, cs, hp, nx, lb, wl⟩)
    | e :: dl' => some (⟨i, ft, nx0, (e :: dl').map (·.1)⟩ :: recs, ⟨⟨fn, sz, tm', todo', df, rd, ret⟩, cs, app (e :: dl') hp, nx, lb, logs lb (e :: dl') wl⟩)
   | none => none
 else none
def addU (x : Nat) (r : List Nat) : List Nat := bif hasN x r then r else x :: r
def uniq : List Nat → List Nat
 | [] => []
 | x :: l => addU x (uniq l)
def drawCall (runC : St → Option (AV × St)) (ops : Array Oper) (i : Nat) (recs : List Rec) (us : List Rec) (s : St) (o : Oper) (fr' : Fr) : Option (List Rec × St) :=
 match runC { fr := fr', cs := [], hp := without (logsOf us) s.hp, nx := s.nx, lb := s.nx, wl := [] } with
 | some (v, s') => bif isStopV v then none else drawPut ops i recs us s o none (changes s'.hp (uniq s'.wl ++ fromTo s.nx (s'.nx - s.nx))) s'.nx v
 | none => none
def drawOne (runC : St → Option (AV × St)) (ops : Array Oper) (i : Nat) (recs : List Rec) (us : List Rec) (s : St) (o : Oper) : Option (List Rec × St) :=
 match wantedA s.fr.tm ops o with
 | none => none
 | some false => drawPut ops i recs us s o (some []) [] s.nx unit
 | some true =>
  match aop P G s.fr.tm (restrictA s.hp (logsOf us) (footO G s.fr.tm o) .lf) s.nx o with
  | some r => drawPut ops i recs us s o (some (footO G s.fr.tm o)) r.dl r.nx r.v
  | none => match o.op with
   | .call c => match calleeA P G s.fr.tm c with
    | some (.func g args) => match extO G X .lf s.nx g args with
     | some r => drawPut ops i recs us s o (some []) r.dl r.nx r.v
     | none => match enterA P g args with
      | some fr' => drawCall runC ops i recs us s o fr'
      | none => none
    | some (.yield id args) => match roundA (without (logsOf us) s.hp) id args with
     | some fr' => drawCall runC ops i recs us s o fr'
     | none => none
    | none => none
   | _ => none
def drawA (runC : St → Option (AV × St)) (ops : Array Oper) (bs : Array Nat) : List Oper → Nat → List Rec → St → Option St
 | [], _, _, s => some s
 | o :: rest, i, recs, s => match drawOne P G X runC ops i recs (looseA (bs.getD i 0) recs) s o with
  | some (recs', s') => drawA runC ops bs rest (i + 1) recs' s'
  | none => none
def backA (ops : Array Oper) : Nat → List Oper → Bool
 | _, [] => true
 | i, o :: r => bif o.after.toList.all (fun e => !Region.binds .any e || Nat.blt e.on i) then backA ops (i + 1) r else false
def lookP (i : Nat) : List (Nat × Nat) → Option Nat
 | [] => none
 | (x, y) :: l => bif Nat.beq x i then some y else lookP i l
def sameN (nx : Nat) (M : List (Nat × Nat)) (i j : Nat) : Bool :=
 bif Nat.blt i nx then Nat.beq i j else match lookP i M with
  | some y => Nat.beq y j
  | none => false
def eqL (f : AV → AV → AV) : List AV → List AV → List AV
 | a :: l, b :: m => f a b :: eqL f l m
 | _, _ => []
def lenE : List AV → List AV → Bool
 | [], [] => true
 | _ :: l, _ :: m => lenE l m
 | _, _ => false
def eqO : Option Nat → Option Nat → Bool
 | none, none => true
 | some a, some b => Nat.beq a b
 | _, _ => false
def joinV (S : Nat → Nat → Bool) : Nat → AV → AV → AV
 | 0, _, _ => .junk
 | n + 1, a, b => match a, b with
  | .bool x, .bool y => bif x == y then .bool x else .junk
  | .int k x, .int k' y => bif eqK k k' && eqI x y then .int k x else .junk
  | .str x, .str y => bif eqS x y then .str x else .junk
  | .nilp, .nilp => .nilp
  | .ptr i o, .ptr i' o' => bif S i i' && Nat.beq o o' then .ptr i o else .junk
  | .nils, .nils => .nils
  | .sl i o l c e, .sl i' o' l' c' e' => bif S i i' && Nat.beq o o' && Nat.beq l l' && eqO c c' && Nat.beq e e' then .sl i o l c e else .junk
  | .sle, .sle => .sle
  | .nilm, .nilm => .nilm
  | .map i, .map i' => bif S i i' then .map i else .junk
  | .fn f x y, .fn f' x' y' => bif Nat.beq f f' && lenE x x' && lenE y y' then .fn f (eqL (joinV S n) x x') (eqL (joinV S n) y y') else .junk
  | .yl i, .yl i' => bif S i i' then .yl i else .junk
  | .nilf, .nilf => .nilf
  | .iface t x, .iface t' y => bif Nat.beq t t' then .iface t (joinV S n x y) else .junk
  | .nili, .nili => .nili
  | .agg x, .agg y => bif lenE x y then .agg (eqL (joinV S n) x y) else .junk
  | .tup x, .tup y => bif lenE x y then .tup (eqL (joinV S n) x y) else .junk
  | _, _ => .junk
def alikeK : AV → AV → Bool
 | .int k x, .int k' y => eqK k k' && eqI x y
 | .str x, .str y => eqS x y
 | .bool x, .bool y => x == y
 | _, _ => false
def joinE (S : Nat → Nat → Bool) : List (AV × AV × Nat) → List (AV × AV × Nat) → Option (List (AV × AV × Nat))
 | [], [] => some []
 | (k, v, b) :: l, (k', v', b') :: m => bif Nat.beq b b' && alikeK k k' then match joinE S l m with
   | some r => some ((joinV S 20 k k', joinV S 20 v v', b) :: r)
   | none => none
  else none
 | _, _ => none
def dropB : List (AV × AV × Nat) → List (AV × AV)
 | [] => []
 | e :: es => (e.1, e.2.1) :: dropB es
def pullK (k : AV) : List (AV × AV) → Option ((AV × AV) × List (AV × AV))
 | [] => none
 | x :: es => bif alikeK k x.1 then some (x, es) else match pullK k es with
  | some (y, r) => some (y, x :: r)
  | none => none
def joinU (S : Nat → Nat → Bool) : List (AV × AV) → List (AV × AV) → Option (List (AV × AV))
 | [], [] => some []
 | x :: l, m => match pullK x.1 m with
  | some (y, m') => match joinU S l m' with
   | some r => some ((joinV S 20 x.1 y.1, joinV S 20 x.2 y.2) :: r)
   | none => none
  | none => none
 | _, _ => none
def asU : Blk → Option (Bool × List (AV × AV) × Nat)
 | .map w es c => some (w, dropB es, c)
 | .umap w es c => some (w, es, c)
 | _ => none
def joinM (S : Nat → Nat → Bool) (p q : Blk) : Option Blk :=
 match asU p, asU q with
 | some (w, es, c), some (w', es', c') => bif w == w' && Nat.beq c c' then match joinU S es es' with
   | some r => some (.umap w r c)
   | none => none
  else none
 | _, _ => none
def joinB (S : Nat → Nat → Bool) : Option Blk → Option Blk → Option Blk
 | some (.cells w o t l), some (.cells w' o' t' l') => bif w == w' && o == o' && lenE l l' then some (.cells w o (bif eqO t t' then t else none) (eqL (joinV S 20) l l')) else none
 | some (.map w es c), some (.map w' es' c') => match (bif w == w' && Nat.beq c c' then joinE S es es' else none) with
   | some r => some (.map w r c)
   | none => joinM S (.map w es c) (.map w' es' c')
 | some .dfr, some .dfr => some .dfr
 | some p, some q => joinM S p q
 | _, _ => none
def joinHp (S : Nat → Nat → Bool) (a b : Tr Blk) : List (Nat × Nat) → Tr Blk → Tr Blk
 | [], hp => hp
 | (x, y) :: l, hp => joinHp S a b l (hp.set x (joinB S (a.get x) (b.get y)))
def pairsL (f : AV → AV → List (Nat × Nat)) : List AV → List AV → List (Nat × Nat)
 | a :: l, b :: m => f a b ++ pairsL f l m
 | _, _ => []
def pairsV : Nat → AV → AV → List (Nat × Nat)
 | 0, _, _ => []
 | n + 1, a, b => match a, b with
  | .ptr i _, .ptr j _ => [(i, j)]
  | .sl i _ _ _ _, .sl j _ _ _ _ => [(i, j)]
  | .map i, .map j => [(i, j)]
  | .yl i, .yl j => [(i, j)]
  | .fn _ x y, .fn _ x' y' => pairsL (pairsV n) x x' ++ pairsL (pairsV n) y y'
  | .iface _ x, .iface _ y => pairsV n x y
  | .agg x, .agg y => pairsL (pairsV n) x y
  | .tup x, .tup y => pairsL (pairsV n) x y
  | _, _ => []
def valU (k : AV) : List (AV × AV) → Option AV
 | [] => none
 | x :: es => bif alikeK k x.1 then some x.2 else valU k es
def pairsE (es' : List (AV × AV)) : List (AV × AV) → List (Nat × Nat)
 | [] => []
 | x :: es => (match valU x.1 es' with
  | some v' => pairsV 20 x.2 v'
  | none => []) ++ pairsE es' es
def pairsM (p q : Blk) : List (Nat × Nat) :=
 match asU p, asU q with
 | some (_, es, _), some (_, es', _) => pairsE es' es
 | _, _ => []
def pairsB : Option Blk → Option Blk → List (Nat × Nat)
 | some (.cells _ _ _ l), some (.cells _ _ _ l') => pairsL (pairsV 20) l l'
 | some p, some q => pairsM p q
 | _, _ => []
def takenP (i j : Nat) : List (Nat × Nat) → Bool
 | [] => false
 | (x, y) :: l => bif Nat.beq x i || Nat.beq y j then true else takenP i j l
def addP (nx : Nat) : List (Nat × Nat) → List (Nat × Nat) → List (Nat × Nat) → List (Nat × Nat) × List (Nat × Nat)
 | [], M, W => (M, W)
 | (i, j) :: l, M, W => bif Nat.ble nx i && Nat.ble nx j && !takenP i j M then addP nx l ((i, j) :: M) ((i, j) :: W) else addP nx l M W
def matchN (a b : Tr Blk) (nx : Nat) : Nat → List (Nat × Nat) → List (Nat × Nat) → List (Nat × Nat)
 | 0, _, M => M
 | _ + 1, [], M => M
 | n + 1, (i, j) :: W, M => match addP nx (pairsB (a.get i) (b.get j)) M W with
  | (M', W') => matchN a b nx n W' M'
def selfP : List Nat → List (Nat × Nat)
 | [] => []
 | x :: l => (x, x) :: selfP l
def okP (nx top : Nat) : List (Nat × Nat) → Bool
 | [] => true
 | (i, j) :: l => bif Nat.ble nx i && Nat.blt i top && Nat.ble nx j && !takenP i j l then okP nx top l else false
def maxN (a b : Nat) : Nat := bif Nat.ble a b then b else a
def below (n : Nat) : List Nat → List Nat
 | [] => []
 | x :: l => bif Nat.blt x n then x :: below n l else below n l
def findM (s : St) (v w : AV) (a b : St) : List (Nat × Nat) :=
 match addP s.nx (pairsV 20 v w) [] (selfP (below s.nx (a.wl ++ b.wl))) with
 | (M, W) => matchN a.hp b.hp s.nx (a.wl.length + b.wl.length + (maxN a.nx b.nx - s.nx) + 1) W M
def joinSt (s : St) (M : List (Nat × Nat)) (a b : St) : St :=
 { a with hp := joinHp (sameN s.nx M) a.hp b.hp (selfP (below s.nx (a.wl ++ b.wl)) ++ M) s.hp, nx := maxN a.nx b.nx, wl := a.wl ++ b.wl }
def joinTwo (s : St) (v w : AV) (a b : St) (M : List (Nat × Nat)) : Option (AV × St) :=
 bif okP s.nx (maxN a.nx b.nx) M then some (joinV (sameN s.nx M) 20 v w, joinSt s M a b) else none
def uniqR : Option (AV × St) → Option (AV × St)
 | some (v, a) => some (v, { a with wl := uniq a.wl })
 | none => none
def joinAll (f : R → Option (AV × St)) (s : St) : List R → Option (AV × St)
 | [] => none
 | r :: l => match uniqR (f r) with
  | some (v, a) => match l with
   | [] => some (v, a)
   | _ => match joinAll f s l with
    | some (w, b) => uniqR (joinTwo s v w a b (findM s v w a b))
    | none => none
  | none => none
def apartS (s : St) : St := { s with lb := maxN s.nx s.lb, wl := [] }
def joined (f : R → Option (AV × St)) (s : St) (l : List R) : Option (AV × St) :=
 match joinAll f (apartS s) l with
 | some (v, a) => some (v, { a with lb := s.lb, wl := below s.lb a.wl ++ s.wl })
 | none => none
abbrev Res := Nat × List Oper × Tr AV × Tr Blk × Nat × List Nat
abbrev Nxt := Nat → Tr AV → Tr Blk → Nat → List Nat → Res
def oD (d : Option Tmp) (v : AV) (sz k : Nat) (tm : Tr AV) (hp : Tr Blk) (nx : Nat) (wl : List Nat) (next : Nxt) (stop : Res) : Res :=
 Option.rec (motive := fun _ => Res) (next (Nat.succ k) tm hp nx wl) (fun d => cond (Nat.blt d sz) (next (Nat.succ k) (tm.set d (some v)) hp nx wl) stop) d
def oR (dl : List (Nat × Option Blk)) (v : AV) (nx : Nat) (d : Option Tmp) (sz lb k : Nat) (tm : Tr AV) (hp : Tr Blk) (wl : List Nat) (next : Nxt) (stop : Res) : Res :=
 List.rec (motive := fun _ => Res) (oD d v sz k tm hp nx wl next stop) (fun e dl _ => oD d v sz k tm (app (e :: dl) hp) nx (logs lb (e :: dl) wl) next stop) dl
def oA (a : Option R) (d : Option Tmp) (sz lb k : Nat) (tm : Tr AV) (hp : Tr Blk) (wl : List Nat) (next : Nxt) (stop : Res) : Res :=
 Option.rec (motive := fun _ => Res) stop (fun r => R.rec (motive := fun _ => Res) (fun v dl nx => oR dl v nx d sz lb k tm hp wl next stop) r) a
def opsF (sz lb : Nat) (l : List Oper) : Nat → Tr AV → Tr Blk → Nat → List Nat → Nat × List Oper × Tr AV × Tr Blk × Nat × List Nat :=
 List.rec (motive := fun _ => Nxt) (fun k tm hp nx wl => (k, [], tm, hp, nx, wl))
  (fun o rest next k tm hp nx wl => Option.rec (motive := fun _ => Res) (oA (aop P G tm hp nx o) o.dst sz lb k tm hp wl next (k, o :: rest, tm, hp, nx, wl)) (fun _ => (k, o :: rest, tm, hp, nx, wl)) o.guard) l
def fastP (x : Res) (fn : FuncId) (sz : Nat) (ops : Array Oper) (t : List AI) (df : List Nat) (rd : Option Nat) (cs : List Fr) (lb : Nat) : St :=
 match x with
 | (k', rest', tm', hp', nx', wl') => ⟨⟨fn, sz, tm', .inReg ops k' rest' :: t, df, rd, false⟩, cs, hp', nx', lb, wl'⟩
def fastI (a : AI) : List AI → Program → Nat → FuncId → Nat → Tr AV → List Nat → Option Nat → List Fr → Tr Blk → Nat → Nat → List Nat → St → St :=
 AI.rec (motive := fun _ => List AI → Program → Nat → FuncId → Nat → Tr AV → List Nat → Option Nat → List Fr → Tr Blk → Nat → Nat → List Nat → St → St)
  (fun _ _ _ _ _ _ _ _ _ _ _ _ _ _ s => s) (fun _ _ _ _ _ _ _ _ _ _ _ _ _ _ s => s) (fun _ _ _ _ _ _ _ _ _ _ _ _ _ _ s => s) (fun _ _ _ _ _ _ _ _ _ _ _ _ _ _ s => s)
  (fun ops k rest t P G fn sz tm df rd cs hp nx lb wl _ => fastP (opsF P G sz lb rest k tm hp nx wl) fn sz ops t df rd cs lb)
  (fun _ _ _ _ _ _ _ _ _ _ _ _ _ _ s => s) (fun _ _ _ _ _ _ _ _ _ _ _ _ _ _ s => s) (fun _ _ _ _ _ _ _ _ _ _ _ _ _ s => s) (fun _ _ _ _ _ _ _ _ _ _ _ _ _ s => s) a
def fastS (s : St) : St :=
 St.rec (motive := fun _ => St) (fun fr cs hp nx lb wl => Fr.rec (motive := fun _ => St) (fun fn sz tm todo df rd ret =>
  Bool.rec (motive := fun _ => St)
   (List.rec (motive := fun _ => St) ⟨⟨fn, sz, tm, [], df, rd, false⟩, cs, hp, nx, lb, wl⟩ (fun a t _ => fastI a t P G fn sz tm df rd cs hp nx lb wl ⟨⟨fn, sz, tm, a :: t, df, rd, false⟩, cs, hp, nx, lb, wl⟩) todo)
   ⟨⟨fn, sz, tm, todo, df, rd, true⟩, cs, hp, nx, lb, wl⟩ ret) fr) s
def putF0 (fn : FuncId) (sz : Nat) (tm : Tr AV) (todo : List AI) (df : List Nat) (rd : Option Nat) (ret : Bool) (cs : List Fr) (hp : Tr Blk) (nx lb : Nat) (wl : List Nat) (v : AV) : Out :=
 match finF sz tm todo v with
 | some (tm', todo') => .go ⟨⟨fn, sz, tm', todo', df, rd, ret⟩, cs, hp, nx, lb, wl⟩
 | none => .fail "finish"
abbrev KF := List AI → Program → Nat → FuncId → Nat → Tr AV → List Nat → Option Nat → List Fr → Tr Blk → Nat → Nat → List Nat → Out
def cNext (k : List AI) (_ : Program) (_ : Nat) (fn : FuncId) (sz : Nat) (tm : Tr AV) (df : List Nat) (rd : Option Nat) (cs : List Fr) (hp : Tr Blk) (nx lb : Nat) (wl : List Nat) : Out :=
 .go ⟨⟨fn, sz, tm, k, df, rd, false⟩, cs, hp, nx, lb, wl⟩
def cCond (v : AV) (a b : Code) (k : List AI) (fn : FuncId) (sz : Nat) (tm : Tr AV) (df : List Nat) (rd : Option Nat) (cs : List Fr) (hp : Tr Blk) (nx lb : Nat) (wl : List Nat) : Out :=
 match v with
 | .bool t => .go ⟨⟨fn, sz, tm, .code (Bool.rec b a t) :: k, df, rd, false⟩, cs, hp, nx, lb, wl⟩
 | _ => .fail "cond"
def cExit (id : Nat) (o : Option (List AI)) (k : List AI) (fn : FuncId) (sz : Nat) (tm : Tr AV) (df : List Nat) (rd : Option Nat) (cs : List Fr) (hp : Tr Blk) (nx lb : Nat) (wl : List Nat) : Out :=
 Option.rec (motive := fun _ => Out) (bif noStop k then leaveA ⟨⟨fn, sz, tm, .code (.exit id) :: k, df, rd, false⟩, cs, hp, nx, lb, wl⟩ (some (.exit id)) else .fail "stop")
  (fun k' => .go ⟨⟨fn, sz, tm, k', df, rd, false⟩, cs, hp, nx, lb, wl⟩) o
def cRet (k : List AI) (fn : FuncId) (sz : Nat) (tm : Tr AV) (df : List Nat) (rd : Option Nat) (cs : List Fr) (hp : Tr Blk) (nx lb : Nat) (wl : List Nat) : Out :=
 Option.rec (motive := fun _ => Out) (.go ⟨⟨fn, sz, tm, .code .ret :: k, df, none, true⟩, cs, hp, nx, lb, wl⟩)
  (fun id => leaveA ⟨⟨fn, sz, tm, .code .ret :: k, df, some id, false⟩, cs, hp, nx, lb, wl⟩ (some .ret)) rd
def cElse (c : Code) (k : List AI) (P : Program) (G : Nat) (fn : FuncId) (sz : Nat) (tm : Tr AV) (df : List Nat) (rd : Option Nat) (cs : List Fr) (hp : Tr Blk) (nx lb : Nat) (wl : List Nat) : Out :=
 codeA P G ⟨⟨fn, sz, tm, .code c :: k, df, rd, false⟩, cs, hp, nx, lb, wl⟩ c k
def cRegion (id : Nat) (ops : Array Oper) (d : Bool) (k : List AI) (P : Program) (G : Nat) (fn : FuncId) (sz : Nat) (tm : Tr AV) (df : List Nat) (rd : Option Nat) (cs : List Fr) (hp : Tr Blk) (nx lb : Nat) (wl : List Nat) : Out :=
 Bool.rec (motive := fun _ => Out) (cNext (.inReg ops 0 ops.toList :: k) P G fn sz tm df rd cs hp nx lb wl) (cElse (.region id ops true) k P G fn sz tm df rd cs hp nx lb wl) d
def codeK (c : Code) : KF :=
 Code.rec (motive := fun _ => KF)
  (fun k P G fn sz tm df rd cs hp nx lb wl => cNext k P G fn sz tm df rd cs hp nx lb wl)
  (fun id ops d k P G fn sz tm df rd cs hp nx lb wl => cRegion id ops d k P G fn sz tm df rd cs hp nx lb wl)
  (fun a b _ _ k P G fn sz tm df rd cs hp nx lb wl => cNext (.code a :: .code b :: k) P G fn sz tm df rd cs hp nx lb wl)
  (fun c a b _ _ k _ G fn sz tm df rd cs hp nx lb wl => cCond (ev G tm c) a b k fn sz tm df rd cs hp nx lb wl)
  (fun id b _ k P G fn sz tm df rd cs hp nx lb wl => cNext (.code b :: .inBlock id :: k) P G fn sz tm df rd cs hp nx lb wl)
  (fun b _ k P G fn sz tm df rd cs hp nx lb wl => cNext (.code b :: .inLoop b :: k) P G fn sz tm df rd cs hp nx lb wl)
  (fun f ps a b _ _ k P G fn sz tm df rd cs hp nx lb wl => cElse (.rangeFunc f ps a b) k P G fn sz tm df rd cs hp nx lb wl)
  (fun id k _ _ fn sz tm df rd cs hp nx lb wl => cExit id (exitA id k) k fn sz tm df rd cs hp nx lb wl)
  (fun b _ k P G fn sz tm df rd cs hp nx lb wl => cNext (.code b :: .inScope b :: k) P G fn sz tm df rd cs hp nx lb wl)
  (fun _ k P G fn sz tm df rd cs hp nx lb wl => cNext k P G fn sz tm df rd cs hp nx lb wl)
  (fun l k P G fn sz tm df rd cs hp nx lb wl => cElse (.goto l) k P G fn sz tm df rd cs hp nx lb wl)
  (fun k _ _ fn sz tm df rd cs hp nx lb wl => cRet k fn sz tm df rd cs hp nx lb wl)
  (fun w k P G fn sz tm df rd cs hp nx lb wl => cElse (.refuse w) k P G fn sz tm df rd cs hp nx lb wl)
  c
def codeF (fn : FuncId) (sz : Nat) (tm : Tr AV) (df : List Nat) (rd : Option Nat) (cs : List Fr) (hp : Tr Blk) (nx lb : Nat) (wl : List Nat) (c : Code) (k : List AI) : Out :=
 codeK c k P G fn sz tm df rd cs hp nx lb wl
def regF (fn : FuncId) (sz : Nat) (tm : Tr AV) (ops : Array Oper) (k : Nat) (o : Oper) (rest : List Oper) (t : List AI) (df : List Nat) (rd : Option Nat) (cs : List Fr) (hp : Tr Blk) (nx lb : Nat) (wl : List Nat) : Out :=
 match wantedA tm ops o with
 | some true => match aop P G tm hp nx o with
  | some ⟨v, [], nx'⟩ => putF0 fn sz tm (.inReg ops k (o :: rest) :: t) df rd false cs hp nx' lb wl v
  | some ⟨v, e :: dl, nx'⟩ => putF0 fn sz tm (.inReg ops k (o :: rest) :: t) df rd false cs (app (e :: dl) hp) nx' lb (logs lb (e :: dl) wl) v
  | none => match o.op with
   | .call c => match calleeA P G tm c with
    | some (.func g args) => match extO G X hp nx g args with
     | some ⟨v, [], nx'⟩ => putF0 fn sz tm (.inReg ops k (o :: rest) :: t) df rd false cs hp nx' lb wl v
     | some ⟨v, e :: dl, nx'⟩ => putF0 fn sz tm (.inReg ops k (o :: rest) :: t) df rd false cs (app (e :: dl) hp) nx' lb (logs lb (e :: dl) wl) v
     | none => match enterA P g args with
      | some fr' => .go ⟨fr', ⟨fn, sz, tm, .inReg ops k (o :: rest) :: t, df, rd, false⟩ :: cs, hp, nx, lb, wl⟩
      | none => .fail "enter"
    | some (.yield id args) => match roundA hp id args with
     | some fr' => .go ⟨fr', ⟨fn, sz, tm, .inReg ops k (o :: rest) :: t, df, rd, false⟩ :: cs, hp, nx, lb, wl⟩
     | none => .fail "round"
    | none => .fail "callee"
   | .next it isS => match picks hp nx (ev G tm it) isS with
    | some l => .pick l
    | none => .fail "next"
   | _ => .fail "op"
 | some false => putF0 fn sz tm (.inReg ops k (o :: rest) :: t) df rd false cs hp nx lb wl unit
 | none => .fail "guard"
def retF (fn : FuncId) (sz : Nat) (tm : Tr AV) (todo : List AI) (df : List Nat) (rd : Option Nat) (cs : List Fr) (hp : Tr Blk) (nx lb : Nat) (wl : List Nat) : Out :=
 match df with
 | d :: ds => retA P ⟨⟨fn, sz, tm, todo, d :: ds, rd, true⟩, cs, hp, nx, lb, wl⟩
 | [] => match P.funcs[fn]? with
  | some f => match resultsA P hp f tm with
   | some v => match cs with
    | [] => .done v ⟨⟨fn, sz, tm, todo, [], rd, true⟩, [], hp, nx, lb, wl⟩
    | ⟨cfn, csz, ctm, ctodo, cdf, crd, cret⟩ :: cs' => putF0 cfn csz ctm ctodo cdf crd cret cs' hp nx lb wl v
   | none => .fail "results"
  | none => .fail "no function"
abbrev KA := List AI → Program → Nat → (FuncId → Option ExtK) → FuncId → Nat → Tr AV → List Nat → Option Nat → List Fr → Tr Blk → Nat → Nat → List Nat → Out
def aElse (a : AI) (k : List AI) (P : Program) (G : Nat) (X : FuncId → Option ExtK) (fn : FuncId) (sz : Nat) (tm : Tr AV) (df : List Nat) (rd : Option Nat) (cs : List Fr) (hp : Tr Blk) (nx lb : Nat) (wl : List Nat) : Out :=
 stp P G X ⟨⟨fn, sz, tm, a :: k, df, rd, false⟩, cs, hp, nx, lb, wl⟩
def aReg (ops : Array Oper) (i : Nat) (r : List Oper) (k : List AI) (P : Program) (G : Nat) (X : FuncId → Option ExtK) (fn : FuncId) (sz : Nat) (tm : Tr AV) (df : List Nat) (rd : Option Nat) (cs : List Fr) (hp : Tr Blk) (nx lb : Nat) (wl : List Nat) : Out :=
 List.rec (motive := fun _ => Out) (cNext k P G fn sz tm df rd cs hp nx lb wl) (fun o rest _ => regF P G X fn sz tm ops i o rest k df rd cs hp nx lb wl) r
def itemK (a : AI) : KA :=
 AI.rec (motive := fun _ => KA)
  (fun c k P G _ fn sz tm df rd cs hp nx lb wl => codeK c k P G fn sz tm df rd cs hp nx lb wl)
  (fun _ k P G _ fn sz tm df rd cs hp nx lb wl => cNext k P G fn sz tm df rd cs hp nx lb wl)
  (fun b k P G _ fn sz tm df rd cs hp nx lb wl => cNext (.code b :: .inLoop b :: k) P G fn sz tm df rd cs hp nx lb wl)
  (fun _ k P G _ fn sz tm df rd cs hp nx lb wl => cNext k P G fn sz tm df rd cs hp nx lb wl)
  (fun ops i r k P G X fn sz tm df rd cs hp nx lb wl => aReg ops i r k P G X fn sz tm df rd cs hp nx lb wl)
  (fun id k P G X fn sz tm df rd cs hp nx lb wl => aElse (.inRF id) k P G X fn sz tm df rd cs hp nx lb wl)
  (fun id k P G X fn sz tm df rd cs hp nx lb wl => aElse (.endRF id) k P G X fn sz tm df rd cs hp nx lb wl)
  (fun k P G X fn sz tm df rd cs hp nx lb wl => aElse .begR k P G X fn sz tm df rd cs hp nx lb wl)
  (fun k P G X fn sz tm df rd cs hp nx lb wl => aElse .stop k P G X fn sz tm df rd cs hp nx lb wl)
  a
def todoK (todo : List AI) (P : Program) (G : Nat) (X : FuncId → Option ExtK) (fn : FuncId) (sz : Nat) (tm : Tr AV) (df : List Nat) (rd : Option Nat) (cs : List Fr) (hp : Tr Blk) (nx lb : Nat) (wl : List Nat) : Out :=
 List.rec (motive := fun _ => Out) (leaveA ⟨⟨fn, sz, tm, [], df, rd, false⟩, cs, hp, nx, lb, wl⟩ none) (fun a k _ => itemK a k P G X fn sz tm df rd cs hp nx lb wl) todo
def stpF (s : St) : Out :=
 St.rec (motive := fun _ => Out) (fun fr cs hp nx lb wl => Fr.rec (motive := fun _ => Out) (fun fn sz tm todo df rd ret =>
  Bool.rec (motive := fun _ => Out) (todoK todo P G X fn sz tm df rd cs hp nx lb wl) (retF P fn sz tm todo df rd cs hp nx lb wl) ret) fr) s
def cutI (a : AI) (lp : Bool) (k : List AI) (r : Bool → Option (List AI × List AI)) : Option (List AI × List AI) :=
 match a with
 | .inBlock id => bif lp then some ([.inBlock id], k) else match r lp with
  | some (p, q) => some (.inBlock id :: p, q)
  | none => none
 | .inLoop c => match r true with
  | some (p, q) => some (.inLoop c :: p, q)
  | none => none
 | .inReg ops i l => match r lp with
  | some (p, q) => some (.inReg ops i l :: p, q)
  | none => none
 | .inScope c => match r lp with
  | some (p, q) => some (.inScope c :: p, q)
  | none => none
 | .code c => match r lp with
  | some (p, q) => some (.code c :: p, q)
  | none => none
 | _ => none
def cutL (l : List AI) : Bool → Option (List AI × List AI) := List.rec (motive := fun _ => Bool → Option (List AI × List AI)) (fun _ => none) (fun a k r lp => cutI a lp k r) l
def listT (tm : Tr AV) (n : Nat) : List AV := Nat.rec (motive := fun _ => List AV) [] (fun i r => r ++ [slot tm i]) n
def ofT (l : List AV) : Tr AV := putTmps l 0 .lf
def sameD : List Nat → List Nat → Bool
 | [], [] => true
 | x :: l, y :: m => bif Nat.beq x y then sameD l m else false
 | _, _ => false
def stopR (sz : Nat) (df : List Nat) : Option (AV × St) → Option (AV × St)
 | some (.stopv, a) => bif Nat.beq a.fr.sz sz && sameD a.fr.df df then some (.tup (listT a.fr.tm sz), a) else none
 | _ => none
def resume (s : St) (post : List AI) : Option (AV × St) → Option St
 | some (.tup l, a) => bif Nat.beq l.length s.fr.sz then some ⟨⟨s.fr.fn, s.fr.sz, ofT l, post, s.fr.df, s.fr.rd, false⟩, s.cs, a.hp, a.nx, s.lb, below s.lb a.wl ++ s.wl⟩ else none
 | _ => none
def cutS (s : St) (pre : List AI) : St := ⟨⟨s.fr.fn, s.fr.sz, s.fr.tm, pre ++ [.stop], s.fr.df, s.fr.rd, false⟩, [], s.hp, s.nx, s.lb, s.wl⟩
def cutR (rn : St → Option (AV × St)) (s c : St) (post : List AI) : Out → Option St
 | .pick l => resume s post (joinAll (fun r => match putV ((apartS c).turn r.dl r.nx) r.v with
   | .go s' => stopR s.fr.sz s.fr.df (rn s')
   | _ => none) (apartS c) l)
 | _ => none
def cutK (P : Program) (G : Nat) (X : FuncId → Option ExtK) (rn : St → Option (AV × St)) (s : St) : Option St :=
 bif s.fr.ret then none else
 match cutL s.fr.todo false with
 | some (pre, post) => cutR rn s (cutS s pre) post (stpF P G X (cutS s pre))
 | none => none
def goK (s' : St) (P : Program) (G : Nat) (X : FuncId → Option ExtK) (J : FuncId → Bool) (rn : St → Option (AV × St)) (s : St) : Option (AV × St) :=
 bif J s'.fr.fn && Nat.blt s.cs.length s'.cs.length then
  match s'.cs with
  | c :: cs => match rn { s' with cs := [] } with
   | some (v, s2) => bif isStopV v then none else match finishA c v with
    | some c' => rn { s2 with fr := c', cs }
    | none => none
   | none => none
  | [] => none
 else rn s'
def goR (s' : St) (J : FuncId → Bool) (rn : St → Option (AV × St)) (els : Option (AV × St)) : Option (AV × St) :=
 Bool.rec (motive := fun _ => Option (AV × St)) (rn s') els (J s'.fr.fn)
def noStopR : Option (AV × St) → Option (AV × St)
 | some (v, a) => bif isStopV v then none else some (v, a)
 | none => none
def cutJ (J : FuncId → Bool) (s : St) : Bool := J (Nat.add s.fr.fn 1000000)
def pickK (l : List R) (rn : St → Option (AV × St)) (s : St) : Option (AV × St) :=
 joined (fun r => match putV ((apartS s).turn r.dl r.nx) r.v with
   | .go s' => noStopR (rn s')
   | _ => none) s l
def drawK (ops : Array Oper) (k : List AI) (P : Program) (G : Nat) (X : FuncId → Option ExtK) (rn : St → Option (AV × St)) (s : St) : Option (AV × St) :=
 bif backA ops 0 ops.toList then
   match drawA P G X rn ops (Region.before ops) ops.toList 0 [] { s with fr := { s.fr with todo := .inReg ops 0 ops.toList :: k } } with
   | some s' => rn s'
   | none => none
  else none
def outK (o : Out) : Program → Nat → (FuncId → Option ExtK) → (FuncId → Bool) → (St → Option (AV × St)) → St → Option (AV × St) :=
 Out.rec (motive := fun _ => Program → Nat → (FuncId → Option ExtK) → (FuncId → Bool) → (St → Option (AV × St)) → St → Option (AV × St))
  (fun s' P G X J rn s => goR s' J rn (goK s' P G X J rn s))
  (fun v s' _ _ _ _ _ _ => some (v, s'))
  (fun ops k P G X _ rn s => drawK ops k P G X rn s)
  (fun l P G X J rn s => bif cutJ J s then (match cutK P G X rn s with
   | some s' => rn s'
   | none => none) else pickK l rn s)
  (fun _ _ _ _ _ _ _ => none)
  (fun s' _ _ _ _ _ _ => some (.stopv, s')) o
def runBody (J : FuncId → Bool) (rn : St → Option (AV × St)) (s : St) : Option (AV × St) := outK (stpF P G X s) P G X J rn s
def run (J : FuncId → Bool) (n : Nat) : St → Option (AV × St) :=
 Nat.rec (motive := fun _ => St → Option (AV × St)) (fun _ => none) (fun _ r s => runBody P G X J r (fastS P G s)) n
end
end
end Go.Ex
