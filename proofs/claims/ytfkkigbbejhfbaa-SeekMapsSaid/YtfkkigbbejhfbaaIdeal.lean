/- The ideal interpreter: values instead of memory; what is owned lies in places. No statement about the machine stands here. -/
import Derived.LoopN
import Derived.Calls
import Derived.Lib.SlicesCompact
namespace Go.Proofs.Ytfkkigbbejhfbaa.Idl
open Go

inductive Arr (α : Type) : Type where
  | ints (k : IntKind) (l : List Int)
  | bools (l : List Bool)
  | strs (l : List ByteArray)
  | vals (n : Nat) (l : List α)

inductive V : Type where
  | dead
  | bool (b : Bool)
  | int (k : IntKind) (n : Int)
  | str (s : ByteArray)
  | nils
  | nilp
  | nilf
  | sl (own : Bool) (a : Arr V)
  | agg (l : List V)
  | tup (l : List V)
  | pv (l : List V) (off : Nat)
  | pt (l : List V)
  | fn (f : Nat) (cap : List V)
  | rs (id : Nat)
  | pr (id off : Nat)
  | er (id i off : Nat)

instance : Inhabited V := ⟨.dead⟩

def V.cells : V → List V
  | .agg l => l
  | v => [v]

namespace Arr
def len {α : Type} : Arr α → Nat
  | .ints _ l => l.length
  | .bools l => l.length
  | .strs l => l.length
  | .vals _ l => l.length
def esz {α : Type} : Arr α → Nat
  | .vals n _ => n
  | _ => 1
def toL : Arr V → List V
  | .ints k l => l.map (.int k)
  | .bools l => l.map .bool
  | .strs l => l.map .str
  | .vals _ l => l
def get {R : Type} (a : Arr V) (i : Nat) (K : V → Option R) : Option R :=
  match a with
  | .ints k l => match l[i]? with | some x => K (.int k x) | none => none
  | .bools l => match l[i]? with | some x => K (.bool x) | none => none
  | .strs l => match l[i]? with | some x => K (.str x) | none => none
  | .vals _ l => match l[i]? with | some x => K x | none => none
def cut (a : Arr V) (lo hi : Nat) : Arr V :=
  match a with
  | .ints k l => .ints k ((l.take hi).drop lo)
  | .bools l => .bools ((l.take hi).drop lo)
  | .strs l => .strs ((l.take hi).drop lo)
  | .vals n l => .vals n ((l.take hi).drop lo)
def app {R : Type} (a b : Arr V) (K : Arr V → Option R) : Option R :=
  match a, b with
  | .ints k l, .ints k' l' => if k = k' then K (.ints k (l ++ l')) else none
  | .bools l, .bools l' => K (.bools (l ++ l'))
  | .strs l, .strs l' => K (.strs (l ++ l'))
  | .vals n l, .vals n' l' => if n = n' then K (.vals n (l ++ l')) else none
  | _, _ => none
def set {R : Type} (a : Arr V) (i off : Nat) (v : V) (K : Arr V → Option R) : Option R :=
  match a, v with
  | .ints k l, .int k' n => if k = k' ∧ off = 0 then K (.ints k (l.set i n)) else none
  | .bools l, .bool b => if off = 0 then K (.bools (l.set i b)) else none
  | .strs l, .str s => if off = 0 then K (.strs (l.set i s)) else none
  | .vals n l, v => if n = 1 ∧ off = 0 then K (.vals n (l.set i v)) else none
  | _, _ => none
end Arr

/-- what an element kind is -/
inductive EK : Type where
  | ints (k : IntKind)
  | bools
  | strs
  | vals (n : Nat)
  deriving DecidableEq

def EK.nil : EK → Arr V
  | .ints k => .ints k []
  | .bools => .bools []
  | .strs => .strs []
  | .vals n => .vals n []

/-- shapes: what a value that comes from elsewhere must look like -/
inductive SL : Type where
  | any
  | int (k : IntKind)
  | bool
  | str
  | sl (own : Bool) (e : EK)

inductive S1 : Type where
  | leaf (l : SL)
  | agg (l : List SL)
  | pt (l : List SL)
  | pv (l : List SL)
  | fnp (f : Nat) (l : List (List SL))
  | pvn (l : List SL)

inductive Sh : Type where
  | one (s : S1)
  | tup (l : List S1)

inductive TD : Type where
  | int (k : IntKind)
  | bool
  | str
  | sl (e : Nat)
  | ptr (e : Nat)
  | struct (fs : List (Nat × Nat))
  | other

structure TI where
  d : TD
  size : Nat
  bytes : Nat
  zero : List V
  sh : S1
  ek : EK

structure Sig where
  res : Sh
  outs : List S1
  over : List Nat := []
  shr : List Nat := []
/-- the parameters' types, but where a number stands: how an argument is handed on (nilArg: nil as nil; ownArg: an owned slice, handed over) -/
def tysOf : List Nat → List Nat → List Nat
  | o :: os, t :: ts => (if o = 0 then t else o) :: tysOf os ts
  | _, ts => ts
def Sig.tys (sg : Sig) (fn : Func) : List Nat := tysOf sg.over fn.params.toList
def nilArg : Nat := 65535
def ownArg : Nat := 65534
theorem tysOf_length : ∀ (os ts : List Nat), (tysOf os ts).length = ts.length
  | [], _ => by simp [tysOf]
  | _ :: _, [] => by simp [tysOf]
  | o :: os, t :: ts => by simp [tysOf, tysOf_length os ts]

abbrev Mask := List (Nat × Bool)

structure Env where
  ty : Nat → Option TI
  fn : Nat → Option Func
  sig : Nat → Option Sig
  shr : List Nat
  seq : Nat → List V → Option (Bool × List V)
  inp : Nat → Option (Bool × (Arr V → Bool) × (Arr V → Arr V))
/-- within a function: the temporaries that are built as shared ones -/
def Env.on (E : Env) (sg : Sig) : Env := { E with shr := sg.shr }

abbrev CallF := Nat → List V → Option (V × List V)

section shapes
variable {R : Type}
def V.asInt (k : IntKind) (v : V) (K : Int → Option R) : Option R :=
  match v with
  | .int k' n => if k' = k then K n else none
  | _ => none
def V.asBool (v : V) (K : Bool → Option R) : Option R :=
  match v with
  | .bool b => K b
  | _ => none
def V.asStr (v : V) (K : ByteArray → Option R) : Option R :=
  match v with
  | .str s => K s
  | _ => none
def Arr.as (a : Arr V) (e : EK) (K : Arr V → Option R) : Option R :=
  match e, a with
  | .ints k, .ints k' l => if k' = k then K (.ints k l) else none
  | .bools, .bools l => K (.bools l)
  | .strs, .strs l => K (.strs l)
  | .vals n, .vals n' l => if n' = n then K (.vals n l) else none
  | _, _ => none
def V.asSl (o : Bool) (e : EK) (v : V) (K : Arr V → Option R) : Option R :=
  match v with
  | .sl o' a => if o' = o then a.as e K else none
  | _ => none
def SL.chk : SL → V → (V → Option R) → Option R
  | .any, v, K => K v
  | .int k, v, K => v.asInt k fun n => K (.int k n)
  | .bool, v, K => v.asBool fun b => K (.bool b)
  | .str, v, K => v.asStr fun s => K (.str s)
  | .sl o e, v, K => v.asSl o e fun a => K (.sl o a)
def seeCons (l : List V) (K : V → List V → Option R) : Option R :=
  match l with
  | x :: r => K x r
  | [] => none
def seeNil (l : List V) (K : Option R) : Option R :=
  match l with
  | [] => K
  | _ => none
def chkL : List SL → List V → (List V → Option R) → Option R
  | [], vs, K => seeNil vs (K [])
  | s :: ss, vs, K => seeCons vs fun v vs => s.chk v fun v' => chkL ss vs fun vs' => K (v' :: vs')
def V.asAgg (v : V) (K : List V → Option R) : Option R :=
  match v with
  | .agg l => K l
  | _ => none
def V.asPt (v : V) (K : List V → Option R) : Option R :=
  match v with
  | .pt l => K l
  | _ => none
def V.asPv (v : V) (K : List V → Option R) : Option R :=
  match v with
  | .pv l off => if off = 0 then K l else none
  | _ => none
def V.asPvn (v : V) (Kn : Option R) (K : List V → Option R) : Option R :=
  match v with
  | .nilp => Kn
  | .pv l off => if off = 0 then K l else none
  | _ => none
def V.asTup (v : V) (K : List V → Option R) : Option R :=
  match v with
  | .tup l => K l
  | _ => none
def V.asFn (f : Nat) (v : V) (K : List V → Option R) : Option R :=
  match v with
  | .fn g l => if g = f then K l else none
  | _ => none
def chkP : List (List SL) → List V → (List V → Option R) → Option R
  | [], vs, K => seeNil vs (K [])
  | s :: ss, vs, K => seeCons vs fun v vs => v.asPv fun l => chkL s l fun l' => chkP ss vs fun vs' => K (.pv l' 0 :: vs')
def S1.chk : S1 → V → (V → Option R) → Option R
  | .leaf s, v, K => s.chk v K
  | .agg l, v, K => v.asAgg fun vs => chkL l vs fun vs' => K (.agg vs')
  | .pt l, v, K => v.asPt fun vs => chkL l vs fun vs' => K (.pt vs')
  | .pv l, v, K => v.asPv fun vs => chkL l vs fun vs' => K (.pv vs' 0)
  | .fnp f l, v, K => v.asFn f fun vs => chkP l vs fun vs' => K (.fn f vs')
  | .pvn l, v, K => v.asPvn (K .nilp) fun vs => chkL l vs fun vs' => K (.pv vs' 0)
def chkL1 : List S1 → List V → (List V → Option R) → Option R
  | [], vs, K => seeNil vs (K [])
  | s :: ss, vs, K => seeCons vs fun v vs => s.chk v fun v' => chkL1 ss vs fun vs' => K (v' :: vs')
def Sh.chk : Sh → V → (V → Option R) → Option R
  | .one s, v, K => s.chk v K
  | .tup l, v, K => v.asTup fun vs => chkL1 l vs fun vs' => K (.tup vs')
end shapes

structure St where
  tmps : List V
  M : List V
  roots : List Nat

def St.get (s : St) (t : Nat) : V := s.tmps.getD t .dead
def St.put (s : St) (d : Option Nat) (v : V) : St :=
  match d with
  | some d => { s with tmps := s.tmps.set d v }
  | none => s
/-- a list, laid out: its spine is looked at, part by part -/
def forceL {R : Type} : List V → (List V → Option R) → Option R
  | [], K => K []
  | v :: vs, K => forceL vs fun vs => K (v :: vs)
theorem forceL_eq {R : Type} : ∀ (l : List V) (K : List V → Option R), forceL l K = K l
  | [], _ => rfl
  | v :: vs, K => forceL_eq vs fun vs => K (v :: vs)
def St.force {R : Type} (s : St) (K : St → Option R) : Option R := forceL s.tmps fun ts => forceL s.M fun M => K { tmps := ts, M := M, roots := s.roots }
theorem St.force_eq {R : Type} (s : St) (K : St → Option R) : s.force K = K s := by
  unfold St.force
  rw [forceL_eq, forceL_eq]
def pl (M : List V) (id : Nat) : V := M.getD id .dead

def ofConst : Value → V
  | .bool b => .bool b
  | .int k n => .int k n
  | .string s => .str s
  | .pointer none => .nilp
  | .slice none 0 0 => .nils
  | .nilFunc => .nilf
  | _ => .dead
def St.eval (s : St) : Operand → V
  | .tmp t => s.get t
  | .const v => ofConst v
  | .global _ => .dead
  | .func f => .fn f []

/-! ## simple operations: the value alone -/

def intOp {R : Type} (op : BinOp) (k : IntKind) (a b : Int) (K : V → Option R) : Option R :=
  match op with
  | .add => K (.int k (k.wrap (a + b)))
  | .sub => K (.int k (k.wrap (a - b)))
  | .mul => K (.int k (k.wrap (a * b)))
  | .quo => if b = 0 then none else K (.int k (k.wrap (a.tdiv b)))
  | .rem => if b = 0 then none else K (.int k (a.tmod b))
  | .and => K (.int k (k.wrap (BitVec.ofInt k.bits a &&& BitVec.ofInt k.bits b).toNat))
  | .or => K (.int k (k.wrap (BitVec.ofInt k.bits a ||| BitVec.ofInt k.bits b).toNat))
  | .xor => K (.int k (k.wrap (BitVec.ofInt k.bits a ^^^ BitVec.ofInt k.bits b).toNat))
  | .eql => K (.bool (a == b))
  | .neq => K (.bool (a != b))
  | .lss => K (.bool (decide (a < b)))
  | .leq => K (.bool (decide (a ≤ b)))
  | .gtr => K (.bool (decide (a > b)))
  | .geq => K (.bool (decide (a ≥ b)))
  | _ => none
def shiftOp {R : Type} (op : BinOp) (k : IntKind) (a b : Int) (K : V → Option R) : Option R :=
  if b < 0 then none else
  match op with
  | .shl => K (.int k (k.wrap (a * 2 ^ (min b.toNat k.bits))))
  | .shr => K (.int k (a.fdiv (2 ^ (min b.toNat k.bits))))
  | _ => none
def strOp {R : Type} (op : BinOp) (a b : ByteArray) (K : V → Option R) : Option R :=
  match op with
  | .add => if a.size + b.size ≤ 9223372036854775807 then K (.str (a ++ b)) else none
  | .eql => K (.bool (a.toList == b.toList))
  | .neq => K (.bool (!(a.toList == b.toList)))
  | .lss => K (.bool (Op.bytesLess a.toList b.toList))
  | .leq => K (.bool (Op.bytesLess a.toList b.toList || a.toList == b.toList))
  | .gtr => K (.bool (!(Op.bytesLess a.toList b.toList || a.toList == b.toList)))
  | .geq => K (.bool (!(Op.bytesLess a.toList b.toList)))
  | _ => none
def isPtr (E : Env) (t : Nat) : Bool :=
  match E.ty t with
  | some ti => (match ti.d with | .ptr _ => true | _ => false)
  | none => false
def isBool (E : Env) (t : Nat) : Bool :=
  match E.ty t with
  | some ti => (match ti.d with | .bool => true | _ => false)
  | none => false
def binOpV {R : Type} (E : Env) (op : BinOp) (t : Nat) (x y : V) (K : V → Option R) : Option R :=
  match x, y with
  | .int k a, .int k' b =>
    (match op with
     | .shl => shiftOp .shl k a b K
     | .shr => shiftOp .shr k a b K
     | op => if k = k' then intOp op k a b K else none)
  | .str a, .str b => strOp op a b K
  | .bool a, .bool b =>
    (match op with
     | .eql => if isBool E t then K (.bool (a == b)) else none
     | .neq => if isBool E t then K (.bool (!(a == b))) else none
     | _ => none)
  | .pv _ _, .nilp | .pr _ _, .nilp =>
    (match op with
     | .eql => if isPtr E t then K (.bool false) else none
     | .neq => if isPtr E t then K (.bool true) else none
     | _ => none)
  | .nilp, .nilp =>
    (match op with
     | .eql => if isPtr E t then K (.bool true) else none
     | .neq => if isPtr E t then K (.bool false) else none
     | _ => none)
  | _, _ => none
def unOpV {R : Type} (op : UnOp) (x : V) (K : V → Option R) : Option R :=
  match op, x with
  | .not, .bool b => K (.bool (!b))
  | .neg, .int k n => K (.int k (k.wrap (0 - n)))
  | _, _ => none
def pickV {R : Type} (c a b : V) (K : V → Option R) : Option R :=
  match c with
  | .bool c => cond c (K a) (K b)
  | _ => none
/-- strings, put in order; neighbours that are alike, told once -/
def strsU (l : List ByteArray) : List (List UInt8) := l.map fun s => s.data.toList
def strsB (l : List (List UInt8)) : List ByteArray := l.map fun b => ⟨b.toArray⟩
def sortS (l : List ByteArray) : List ByteArray := strsB ((strsU l).mergeSort fun x y => decide (x ≤ y))
def compactS (l : List ByteArray) : List ByteArray := strsB (Lib.compact (strsU l))
def okStrs : Arr V → Bool
  | .strs l => decide (l.length ≤ 17179869184)
  | _ => false
def onStrs (f : List ByteArray → List ByteArray) : Arr V → Arr V
  | .strs l => .strs (f l)
  | a => a
def bytesStr (l : List Int) : ByteArray := ⟨(l.map fun n => UInt8.ofNat n.toNat).toArray⟩
def strBytes (s : ByteArray) : List Int := s.data.toList.map fun b => (b.toNat : Int)

def sliceOf {R : Type} (M : List V) (v : V) (K : Arr V → Option R) : Option R :=
  match v with
  | .sl _ a => K a
  | .rs id => (match pl M id with | .sl _ a => K a | _ => none)
  | _ => none
def convV {R : Type} (E : Env) (M : List V) (src dst : Nat) (x : V) (K : V → Option R) : Option R :=
  match E.ty src, E.ty dst with
  | some a, some b =>
    (match b.d, x with
     | .int k, .int _ n => K (.int k (k.wrap n))
     | .str, .str s => K (.str s)
     | .str, .sl _ (.ints .u8 l) => (match a.d with | .sl e => (match E.ty e with | some te => (match te.d with | .int .u8 => K (.str (bytesStr l)) | _ => none) | none => none) | _ => none)
     | .str, .rs id => (match pl M id with
        | .sl _ (.ints .u8 l) => (match a.d with | .sl e => (match E.ty e with | some te => (match te.d with | .int .u8 => K (.str (bytesStr l)) | _ => none) | none => none) | _ => none)
        | _ => none)
     | .sl e, .str s => (match a.d, E.ty e with
        | .str, some te => (match te.d with | .int .u8 => K (.sl false (.ints .u8 (strBytes s))) | _ => none)
        | _, _ => none)
     | _, _ => none)
  | _, _ => none
/-- cells from a place on, as a value of a type -/
def fromCells {R : Type} (ti : TI) (l : List V) (off : Nat) (K : V → Option R) : Option R :=
  match ti.d with
  | .struct _ => if off + ti.size ≤ l.length then K (.agg ((l.drop off).take ti.size)) else none
  | _ => (match l[off]? with | some v => K v | none => none)
def loadV {R : Type} (E : Env) (M : List V) (t : Nat) (a : V) (K : V → Option R) : Option R :=
  match E.ty t with
  | none => none
  | some ti =>
    (match a with
     | .pv l off => fromCells ti l off K
     | .pr id off => (match pl M id with
        | .pt l => fromCells ti l off K
        | .pv l _ => fromCells ti l off K
        | _ => none)
     | .er id i off => (match pl M id with
        | .sl _ a => a.get i fun v => ti.sh.chk v fun v => fromCells ti v.cells off K
        | _ => none)
     | _ => none)
def fieldAddrV {R : Type} (E : Env) (M : List V) (t : Nat) (x : V) (f : Nat) (K : V → Option R) : Option R :=
  match E.ty t with
  | none => none
  | some ti =>
    (match ti.d with
     | .struct fs => (match fs[f]? with
        | none => none
        | some (o, _) =>
          (match x with
           | .pv l off => K (.pv l (off + o))
           | .pr id off => K (.pr id (off + o))
           | .er id i off => (match pl M id with | .sl _ _ => K (.er id i (off + o)) | _ => none)
           | _ => none))
     | _ => none)
def fieldV {R : Type} (E : Env) (t : Nat) (x : V) (f : Nat) (K : V → Option R) : Option R :=
  match E.ty t with
  | none => none
  | some ti =>
    (match ti.d with
     | .struct fs => (match fs[f]? with
        | none => none
        | some (o, ft) => (match E.ty ft, x with
          | some fi, .agg l => fromCells fi l o K
          | _, _ => none))
     | _ => none)
def elemTI (E : Env) (t : Nat) : Option TI :=
  match E.ty t with
  | some ti => (match ti.d with | .sl e => E.ty e | _ => none)
  | none => none
def indexAddrV {R : Type} (E : Env) (M : List V) (t : Nat) (x i : V) (K : V → Option R) : Option R :=
  match i, elemTI E t with
  | .int _ n, some te =>
    if 0 ≤ n then
      (match x with
       | .sl _ a => if a.esz = te.size then a.get n.toNat fun v => te.sh.chk v fun v => K (.pv v.cells 0) else none
       | .rs id => (match pl M id with
          | .sl true a => if n < a.len ∧ a.esz = te.size then K (.er id n.toNat 0) else none
          | .sl false a => if a.esz = te.size then a.get n.toNat fun v => te.sh.chk v fun v => K (.pv v.cells 0) else none
          | _ => none)
       | _ => none)
    else none
  | _, _ => none
def indexV {R : Type} (E : Env) (t : Nat) (x i : V) (K : V → Option R) : Option R :=
  match E.ty t with
  | none => none
  | some ti =>
    (match ti.d, x, i with
     | .str, .str s, .int _ n => if 0 ≤ n then (match s.data.toList[n.toNat]? with | some b => K (.int .u8 b.toNat) | none => none) else none
     | _, _, _ => none)
def optInt {R : Type} (x : Option V) (d : Int) (K : Int → Option R) : Option R :=
  match x with
  | none => K d
  | some (.int _ n) => K n
  | some _ => none
def cutV {R : Type} (te : TI) (a : Arr V) (lo hi mx : Option V) (K : V → Option R) : Option R :=
  if hi.isNone && mx.isSome then none else optInt hi a.len fun h => optInt lo 0 fun l => optInt mx h fun m =>
    if 0 ≤ l ∧ l ≤ h ∧ h ≤ a.len ∧ m = h ∧ a.esz = te.size then K (.sl false (a.cut l.toNat h.toNat)) else none
/-- a cut of what is shared, or of a string -/
def sliceV {R : Type} (E : Env) (M : List V) (t : Nat) (x : V) (lo hi mx : Option V) (K : V → Option R) : Option R :=
  match E.ty t with
  | none => none
  | some ti =>
    (match ti.d, x with
     | .str, .str s => (match mx with
        | none => optInt hi s.size fun h => optInt lo 0 fun l =>
            if 0 ≤ l ∧ l ≤ h ∧ h ≤ s.size then K (.str (s.extract l.toNat h.toNat)) else none
        | some _ => none)
     | .sl e, .sl _ a => (match E.ty e with | some te => cutV te a lo hi mx K | none => none)
     | .sl e, .rs id => (match pl M id with
        | .sl _ a => (match E.ty e with | some te => cutV te a lo hi mx K | none => none)
        | _ => none)
     | _, _ => none)
def lenV {R : Type} (M : List V) (x : V) (K : V → Option R) : Option R :=
  match x with
  | .str s => K (.int .i64 s.size)
  | .sl _ a => K (.int .i64 a.len)
  | .rs id => (match pl M id with | .sl _ a => K (.int .i64 a.len) | _ => none)
  | _ => none
/-- is a value without places? -/
def V.plain1 : V → Bool
  | .rs _ | .pr _ _ | .er _ _ _ | .pt _ | .sl true _ | .agg _ | .tup _ | .nils | .dead => false
  | _ => true
def V.plain : V → Bool
  | .agg l => l.all V.plain1
  | v => v.plain1
/-- as it is handed to a call that keeps nothing of it: what is owned is lent -/
def lend1 {R : Type} (E : Env) (M : List V) (t : Nat) (v : V) (K : V → Option R) : Option R :=
  match v with
  | .rs id => (match pl M id with | .sl _ a => K (.sl false a) | _ => none)
  | .pr id off => (match pl M id with | .pv l _ => K (.pv l off) | _ => none)
  | .nils => if t = nilArg then K .nils else (match elemTI E t with | some te => K (.sl false te.ek.nil) | none => none)
  | .nilp => if t = nilArg then K .nilp else none
  | .er _ _ _ => none
  | .pt _ => none
  | .sl true _ => none
  | .tup _ => none
  | .agg _ => none
  | .dead => none
  | v => K v
def lendL {R : Type} (M : List V) (E : Env) : List V → (List V → Option R) → Option R
  | [], K => K []
  | v :: vs, K => lend1 E M 0 v fun v' => lendL M E vs fun vs' => K (v' :: vs')
def lend {R : Type} (E : Env) (M : List V) (t : Nat) (v : V) (K : V → Option R) : Option R :=
  match v with
  | .agg l => lendL M E l fun l' => K (.agg l')
  | v => lend1 E M t v K
def lendAll {R : Type} (E : Env) (M : List V) : List (V × Nat) → (List V → Option R) → Option R
  | [], K => K []
  | (v, t) :: vs, K => lend E M t v fun v' => lendAll E M vs fun vs' => K (v' :: vs')
/-- shapes of results that hold no memory -/
def SL.ground : SL → Bool
  | .int _ | .bool | .str => true
  | _ => false
def S1.ground : S1 → Bool
  | .leaf s => s.ground
  | .agg l => l.all SL.ground
  | _ => false
def Sh.ground : Sh → Bool
  | .one s => s.ground
  | .tup l => l.all S1.ground
def SL.shared : SL → Bool
  | .sl true _ | .any => false
  | _ => true
def S1.shared : S1 → Bool
  | .leaf s => s.shared
  | .agg l => l.all SL.shared
  | .pv l => l.all SL.shared
  | .pt _ => false
  | .fnp _ _ => false
  | .pvn l => l.all SL.shared
def Sh.shared : Sh → Bool
  | .one s => s.shared
  | .tup l => l.all S1.shared
/-- is it owned, and lent by handing it on? -/
def lentOwn (M : List V) : V → Bool
  | .rs id => (match pl M id with | .sl true _ => true | _ => false)
  | .agg l => l.any fun v => match v with | .rs id => (match pl M id with | .sl true _ => true | _ => false) | _ => false
  | _ => false
def ownObj (M : List V) : V → Bool
  | .pr id _ => (match pl M id with | .pt _ => true | _ => false)
  | _ => false

def minInt {R : Type} (a b : V) (K : V → Option R) : Option R :=
  match a, b with
  | .int k x, .int k' y => if k = k' then K (.int k (if y < x then y else x)) else none
  | _, _ => none
def maxInt {R : Type} (a b : V) (K : V → Option R) : Option R :=
  match a, b with
  | .int k x, .int k' y => if k = k' then K (.int k (if y > x then y else x)) else none
  | _, _ => none

def partsV {R : Type} (E : Env) (fs : List (Nat × Nat)) : List (Nat × V) → List V → (List V → Option R) → Option R
  | [], cs, K => K cs
  | (i, v) :: rest, cs, K =>
    (match fs[i]? with
     | none => none
     | some (o, ft) => (match E.ty ft with
        | none => none
        | some fi =>
          (match v with
           | .nils => (match elemTI E ft with | some te => if fi.size = 1 ∧ o < cs.length then partsV E fs rest (cs.set o (.sl false te.ek.nil)) K else none | none => none)
           | .er _ _ _ | .tup _ | .dead => none
           | .agg l => if l.length = fi.size ∧ o + fi.size ≤ cs.length then partsV E fs rest (cs.take o ++ l ++ cs.drop (o + fi.size)) K else none
           | v => if fi.size = 1 ∧ o < cs.length then partsV E fs rest (cs.set o v) K else none)))

def lenOK (E : Env) (t : Nat) (x : V) : Bool :=
  match E.ty t with
  | some ti => (match ti.d, x with
      | .str, .str _ => true
      | .sl _, .sl _ _ => true
      | .sl _, .rs _ => true
      | _, _ => false)
  | none => false
def fnOf {R : Type} (v : V) (K : Nat → List V → Option R) : Option R :=
  match v with
  | .fn f cap => K f cap
  | _ => none

def ofParts {R : Type} (te : TI) : List (Nat × V) → Nat → (List V → Option R) → Option R
  | [], _, K => K []
  | (j, v) :: rest, i, K => if j = i ∧ v.cells.length = te.size then ofParts te rest (i + 1) fun vs => K (v :: vs) else none
def asInts {R : Type} (k : IntKind) : List V → (List Int → Option R) → Option R
  | [], K => K []
  | .int k' n :: vs, K => if k' = k then asInts k vs fun l => K (n :: l) else none
  | _ :: _, _ => none
def asBools {R : Type} : List V → (List Bool → Option R) → Option R
  | [], K => K []
  | .bool b :: vs, K => asBools vs fun l => K (b :: l)
  | _ :: _, _ => none
def asStrs {R : Type} : List V → (List ByteArray → Option R) → Option R
  | [], K => K []
  | .str b :: vs, K => asStrs vs fun l => K (b :: l)
  | _ :: _, _ => none
def ofL {R : Type} (e : EK) (vs : List V) (K : Arr V → Option R) : Option R :=
  match e with
  | .ints k => asInts k vs fun l => K (.ints k l)
  | .bools => asBools vs fun l => K (.bools l)
  | .strs => asStrs vs fun l => K (.strs l)
  | .vals n => K (.vals n vs)

def isSimple (E : Env) (M : List V) (ρ : Operand → V) (o : Oper) : Bool :=
  match o.op with
  | .assign x => (match ρ x with | .nils => false | _ => true)
  | .move _ | .pick _ _ _ | .binOp _ _ _ _ _ | .unOp _ _ _ | .load _ _ | .nilCheck _ | .fieldAddr _ _ _ | .field _ _ _
  | .indexAddr _ _ _ | .index _ _ _ | .extract _ _ | .build _ _ | .convert _ _ _ => true
  | .slice _ x _ _ _ => (match ρ x with | .rs id => (match pl M id with | .sl false _ => true | _ => false) | _ => true)
  | .makeFunc _ first cap => first.isEmpty && cap.all fun x => (ρ x).plain1
  | .buildSlice _ _ ps => (match o.dst with | some d => E.shr.contains d | none => false) && ps.all fun p => (ρ p.2).plain
  | .call c =>
    (match c.callee with
     | .builtin b => (match b with | .len | .min | .max => true | _ => false)
     | .value f => (match ρ f with
        | .fn id _ => (match E.sig id with
          | some sg => sg.outs.isEmpty && sg.res.shared && !(c.args.any fun x => ownObj M (ρ x)) && (sg.res.ground || !(c.args.any fun x => lentOwn M (ρ x)))
          | none => false)
        | _ => false)
     | .invoke _ _ => false)
  | _ => false

section
variable {R : Type} (E : Env) (cf : CallF)
def iopS (M : List V) (ρ : Operand → V) (o : Oper) (K : V → Option R) : Option R :=
  match o.op with
  | .move x => K (ρ x)
  | .assign x => K (ρ x)
  | .pick c a b => pickV (ρ c) (ρ a) (ρ b) K
  | .binOp op t x y _ => binOpV E op t (ρ x) (ρ y) K
  | .unOp op _ x => unOpV op (ρ x) K
  | .convert src dst x => convV E M src dst (ρ x) K
  | .load t a => loadV E M t (ρ a) K
  | .nilCheck x => (match ρ x with
      | .pv l off => K (.pv l off)
      | .pr id off => K (.pr id off)
      | _ => none)
  | .fieldAddr t x f => fieldAddrV E M t (ρ x) f K
  | .field t x f => fieldV E t (ρ x) f K
  | .indexAddr t x i => indexAddrV E M t (ρ x) (ρ i) K
  | .index t x i => indexV E t (ρ x) (ρ i) K
  | .extract x i => (match ρ x with | .tup l => (match l[i]? with | some v => K v | none => none) | _ => none)
  | .slice t x lo hi mx => sliceV E M t (ρ x) (lo.map ρ) (hi.map ρ) (mx.map ρ) K
  | .build t parts => (match E.ty t with
      | some ti => (match ti.d with
        | .struct fs => partsV E fs (parts.toList.map fun p => (p.1, ρ p.2)) ti.zero fun cs => K (.agg cs)
        | _ => none)
      | none => none)
  | .makeFunc f _ cap => (match f with | .func f => K (.fn f (cap.toList.map ρ)) | _ => none)
  | .buildSlice t n parts => (match elemTI E t with
      | some te => ofParts te ((parts.toList.map (·.1)).zip (parts.toList.map fun p => ρ p.2)) 0 fun vs => if vs.length = n ∧ n * te.size ≤ 65536 then ofL te.ek vs fun a => K (.sl false a) else none
      | none => none)
  | .call c =>
    (match c.callee with
     | .builtin b => (match b, c.args.toList with
        | .len, [x] => (match c.argTypes.toList with
            | [t] => if lenOK E t (ρ x) then lenV M (ρ x) K else none
            | _ => none)
        | .min, [x, y] => minInt (ρ x) (ρ y) K
        | .max, [x, y] => maxInt (ρ x) (ρ y) K
        | _, _ => none)
     | .value f => fnOf (ρ f) fun id cap =>
        (match E.sig id, E.fn id with
         | some sg, some fn => lendAll E M ((c.args.toList.map ρ).zip (sg.tys fn)) fun as =>
            if c.args.size ≤ fn.params.size ∧ cap.all V.plain1 = true then
            (match cf id (as ++ cap) with
             | some p => sg.res.chk p.1 K
             | none => none) else none
         | _, _ => none)
     | .invoke _ _ => none)
  | _ => none
end

/-! ## operations on places -/

/-- what is owned, shared for good -/
def share1 {R : Type} (M : List V) (v : V) (K : List V → V → Option R) : Option R :=
  match v with
  | .rs id => (match pl M id with | .sl _ a => K (M.set id (.sl false a)) (.sl false a) | _ => none)
  | .sl true _ | .pr _ _ | .er _ _ _ | .pt _ | .agg _ | .tup _ | .nils | .dead => none
  | v => K M v
def shareL {R : Type} : List V → List V → (List V → List V → Option R) → Option R
  | M, [], K => K M []
  | M, v :: vs, K => share1 M v fun M v' => shareL M vs fun M vs' => K M (v' :: vs')
def share {R : Type} (M : List V) (v : V) (K : List V → V → Option R) : Option R :=
  match v with
  | .pr id off => (match pl M id with
      | .pt l => shareL (M.set id .dead) l fun M l' => K (M.set id (.pv l' 0)) (.pv l' off)
      | .pv l _ => K M (.pv l off)
      | _ => none)
  | .agg l => shareL M l fun M l' => K M (.agg l')
  | v => share1 M v K
def shareAll {R : Type} : List V → List V → (List V → List V → Option R) → Option R
  | M, [], K => K M []
  | M, v :: vs, K => share M v fun M v' => shareAll M vs fun M vs' => K M (v' :: vs')

/-- what lies in a place, taken out of it -/
def take1 {R : Type} (M : List V) (v : V) (K : List V → V → Option R) : Option R :=
  match v with
  | .rs id => (match pl M id with | .sl o a => K (M.set id .dead) (.sl o a) | _ => none)
  | .sl true _ | .pr _ _ | .er _ _ _ | .pt _ | .agg _ | .tup _ | .nils | .dead => none
  | v => K M v
def takeL {R : Type} : List V → List V → (List V → List V → Option R) → Option R
  | M, [], K => K M []
  | M, v :: vs, K => take1 M v fun M v' => takeL M vs fun M vs' => K M (v' :: vs')
def take {R : Type} (M : List V) (v : V) (K : List V → V → Option R) : Option R :=
  match v with
  | .pr id off => (match pl M id with
      | .pt l => if off = 0 then takeL (M.set id .dead) l fun M l' => K M (.pt l') else none
      | .pv l _ => K M (.pv l off)
      | _ => none)
  | .agg l => takeL M l fun M l' => K M (.agg l')
  | v => take1 M v K
def takeAll {R : Type} : List V → List V → (List V → List V → Option R) → Option R
  | M, [], K => K M []
  | M, v :: vs, K => take M v fun M v' => takeAll M vs fun M vs' => K M (v' :: vs')

/-- what is owned, laid into new places -/
def lay1 (M : List V) (v : V) : List V × V :=
  match v with
  | .sl true a => (M ++ [V.sl true a], .rs M.length)
  | v => (M, v)
def layL : List V → List V → List V × List V
  | M, [] => (M, [])
  | M, v :: vs => ((layL (lay1 M v).1 vs).1, (lay1 M v).2 :: (layL (lay1 M v).1 vs).2)
def lay (M : List V) (v : V) : List V × V :=
  match v with
  | .pt l => ((layL M l).1 ++ [V.pt (layL M l).2], .pr (layL M l).1.length 0)
  | .agg l => ((layL M l).1, .agg (layL M l).2)
  | v => lay1 M v
def layAll : List V → List V → List V × List V
  | M, [] => (M, [])
  | M, v :: vs => ((layAll (lay M v).1 vs).1, (lay M v).2 :: (layAll (lay M v).1 vs).2)
def layRes (M : List V) (v : V) : List V × V :=
  match v with
  | .tup l => ((layAll M l).1, .tup (layAll M l).2)
  | v => lay M v

/-- arguments: own objects are handed over whole, the rest is lent; with the places that are handed over -/
def handArg {R : Type} (E : Env) (M : List V) (v : V) (t : Nat) (K : List V → V → List Nat → Option R) : Option R :=
  match v with
  | .pr id off => (match pl M id with
      | .pt l => if off = 0 then takeL (M.set id .dead) l fun M l' => K M (.pt l') [id] else none
      | .pv l _ => K M (.pv l off) []
      | _ => none)
  | v => lend E M t v fun v' => K M v' []
def handAll {R : Type} (E : Env) : List V → List (V × Nat) → (List V → List V → List Nat → Option R) → Option R
  | M, [], K => K M [] []
  | M, (v, t) :: vs, K => handArg E M v t fun M v' ids => handAll E M vs fun M vs' ids' => K M (v' :: vs') (ids ++ ids')
/-- what was handed over comes back into its places -/
def backAll {R : Type} : List V → List Nat → List V → (List V → Option R) → Option R
  | M, [], [], K => K M
  | M, id :: ids, .pt l :: vs, K => backAll ((layL M l).1.set id (.pt (layL M l).2)) ids vs K
  | _, _, _, _ => none
/-- places that were lent to a call that may have kept them -/
def lentIds : List V → List Nat
  | [] => []
  | .rs id :: vs => id :: lentIds vs
  | .agg l :: vs => (l.filterMap fun v => match v with | .rs id => some id | _ => none) ++ lentIds vs
  | _ :: vs => lentIds vs
def freezeIds : List V → List Nat → List V
  | M, [] => M
  | M, id :: ids => freezeIds (match pl M id with | .sl _ a => M.set id (.sl false a) | _ => M) ids

def zeros {R : Type} (te : TI) (n : Nat) (K : Arr V → Option R) : Option R :=
  match te.ek, te.zero with
  | .ints k, [.int k' 0] => if k = k' then K (.ints k (List.replicate n 0)) else none
  | .bools, [.bool false] => K (.bools (List.replicate n false))
  | .strs, [.str s] => if s.size = 0 then K (.strs (List.replicate n .empty)) else none
  | _, _ => none

def bound : Nat := 17179869184

section
variable {R : Type} (E : Env) (cf : CallF)
/-- a nil of a slice's type where a variable is written: an owned slice without elements -/
def typed (M : List V) (t : Nat) (v : V) (K : List V → V → Option R) : Option R :=
  match v with
  | .nils => (match elemTI E t with | some te => K (M ++ [V.sl true te.ek.nil]) (.rs M.length) | none => none)
  | v => K M v
/-- the cells of a variable: zero slices get places of their own -/
def layZero (M : List V) : List V → List V × List V
  | [] => (M, [])
  | .sl _ a :: vs => ((layZero (M ++ [V.sl true a]) vs).1, .rs M.length :: (layZero (M ++ [V.sl true a]) vs).2)
  | v :: vs => ((layZero M vs).1, v :: (layZero M vs).2)
def okCell : V → Bool
  | .er _ _ _ | .tup _ | .dead | .pt _ | .sl true _ | .agg _ | .nils => false
  | _ => true
def setCells {R : Type} (cs : List V) (off : Nat) (vs : List V) (K : List V → Option R) : Option R :=
  if vs.all okCell = true ∧ off + vs.length ≤ cs.length then K (cs.take off ++ vs ++ cs.drop (off + vs.length)) else none
def isSl (E : Env) (t : Nat) : Bool :=
  match E.ty t with
  | some ti => (match ti.d with | .sl _ => true | _ => false)
  | none => false
def isStr (E : Env) (t : Nat) : Bool :=
  match E.ty t with
  | some ti => (match ti.d with | .str => true | _ => false)
  | none => false
/-- an append: what is appended to is used up -/
def appendV (M0 : List V) (t u : Nat) (x y : V) (K : List V → V → Option R) : Option R :=
  match elemTI E t with
  | none => none
  | some te => if te.bytes ≤ 4096 then
      typed E M0 t x fun M v =>
      (match v with
       | .rs id => (match pl M id with
          | .sl true a => if a.esz = te.size then
            (match y with
             | .nils => if isSl E u = true ∧ a.len ≤ bound then K (M.set id .dead ++ [V.sl true a]) (.rs M.length) else none
             | .str b => (match a with
                | .ints .u8 l => if l.length + b.size ≤ bound ∧ isStr E u = true then K (M.set id .dead ++ [V.sl true (.ints .u8 (l ++ strBytes b))]) (.rs M.length) else none
                | _ => none)
             | .rs id' => if id' = id then none else if isSl E u then sliceOf M y fun b => if a.len + b.len ≤ bound ∧ b.esz = a.esz then a.app b fun ab => K (M.set id .dead ++ [V.sl true ab]) (.rs M.length) else none else none
             | w => if isSl E u then sliceOf M w fun b => if a.len + b.len ≤ bound ∧ b.esz = a.esz then a.app b fun ab => K (M.set id .dead ++ [V.sl true ab]) (.rs M.length) else none else none) else none
          | _ => none)
       | _ => none) else none
/-- functions that work on an owned slice in place: handed back (true), or left where it lies -/
def inpV (M : List V) (f : Nat) (cap xs : List V) (K : List V → V → Option R) : Option R :=
  match E.inp f, cap, xs with
  | some (ret, ok, g), [], [.rs id] =>
    (match pl M id with
     | .sl true a => cond (ok a) (cond ret (K (M.set id .dead ++ [V.sl true (g a)]) (.rs M.length)) (K (M.set id (.sl true (g a))) (.tup []))) none
     | _ => none)
  | _, _, _ => none
/-- what an operation makes of the places, and what it yields -/
def iopP (M0 : List V) (ρ : Operand → V) (o : Oper) (K : List V → V → Option R) : Option R :=
  match o.op with
  | .assign x => typed E M0 o.type (ρ x) fun M v => K (M) v
  | .alloc t => (match E.ty t with
      | some ti => K ((layZero M0 ti.zero).1 ++ [V.pt (layZero M0 ti.zero).2]) (.pr (layZero M0 ti.zero).1.length 0)
      | none => none)
  | .box t x => (match E.ty t with
      | some ti => typed E M0 t (ρ x) fun M v =>
          if v.cells.length = ti.size ∧ v.cells.all okCell = true then K (M ++ [V.pt v.cells]) (.pr M.length 0) else none
      | none => none)
  | .store t a x => (match E.ty t with
      | some ti => typed E M0 t (ρ x) fun M v =>
        if v.cells.length = ti.size then
          (match ρ a with
           | .pr id off => (match pl M id with
              | .pt l => setCells l off v.cells fun l' => K (M.set id (.pt l')) .dead
              | _ => none)
           | .er id i off => (match pl M id with
              | .sl true ar => if ti.size = 1 then share M v fun M v => if v.plain1 = true then ar.set i off v fun ar' => (match pl M id with
                  | .sl true _ => K (M.set id (.sl true ar')) .dead
                  | _ => none) else none else none
              | _ => none)
           | _ => none)
        else none
      | none => none)
  | .buildSlice t n parts => (match elemTI E t with
      | some te => shareAll M0 (parts.toList.map fun p => ρ p.2) fun M vs =>
          ofParts te ((parts.toList.map (·.1)).zip vs) 0 fun vs => if vs.length = n ∧ n * te.size ≤ 65536 then ofL te.ek vs fun a => K (M ++ [V.sl true a]) (.rs M.length) else none
      | none => none)
  | .makeSlice t l c => (match elemTI E t, ρ l, ρ c with
      | some te, .int _ n, .int _ m => if 0 ≤ n ∧ n ≤ m ∧ m ≤ bound ∧ te.bytes ≤ 4096 then
          zeros te n.toNat fun a => K (M0 ++ [V.sl true a]) (.rs M0.length) else none
      | _, _, _ => none)
  | .slice t x lo hi mx => (match ρ x with
      | .rs id => (match pl M0 id with
          | .sl _ a => sliceV E (M0.set id (.sl false a)) t (.rs id) (lo.map ρ) (hi.map ρ) (mx.map ρ) fun v =>
              K (M0.set id (.sl false a)) v
          | _ => none)
      | _ => none)
  | .makeFunc f first cap => (match f with
      | .func f => if first.isEmpty then shareAll M0 (cap.toList.map ρ) fun M vs => if vs.all V.plain1 = true then K (M) (.fn f vs) else none else none
      | _ => none)
  | .call c =>
    (match c.callee with
     | .builtin b => (match b, c.args.toList with
        | .append, [x, y] => (match c.argTypes.toList with
            | [t, u] => appendV E M0 t u (ρ x) (ρ y) fun M v => K (M) v
            | _ => none)
        | _, _ => none)
     | .value f => fnOf (ρ f) fun id cap =>
        (match E.sig id, E.fn id with
         | some sg, some fn => handAll E M0 ((c.args.toList.map ρ).zip (sg.tys fn)) fun M as ids =>
            if c.args.size ≤ fn.params.size ∧ (lentIds (c.args.toList.map ρ)).all (fun id => match pl M id with | .sl _ _ => true | _ => false) = true ∧ cap.all V.plain1 = true then
            (match cf id (as ++ cap) with
             | some p => sg.res.chk p.1 fun v => chkL1 sg.outs p.2 fun outs =>
                 backAll (if sg.res.ground && sg.outs.isEmpty then M else freezeIds M (lentIds (c.args.toList.map ρ))) ids outs fun M =>
                 K ((layRes M v).1) ((layRes M v).2)
             | none => none) else none
         | none, some _ => inpV E M0 id cap (c.args.toList.map ρ) K
         | _, _ => none)
     | .invoke _ _ => none)
  | _ => none
def iopH (s : St) (o : Oper) (K : St → Option R) : Option R := iopP E cf s.M s.eval o fun M v => ({ s with M := M }.put o.dst v).force K
theorem iopH_eq (s : St) (o : Oper) (K : St → Option R) : iopH E cf s o K = iopP E cf s.M s.eval o fun M v => K ({ s with M := M }.put o.dst v) := by
  unfold iopH
  simp only [St.force_eq]
def iop (s : St) (o : Oper) (K : St → Option R) : Option R :=
  if isSimple E s.M s.eval o then iopS E cf s.M s.eval o fun v => (s.put o.dst v).force K else iopH E cf s o K
theorem iop_eq (s : St) (o : Oper) (K : St → Option R) : iop E cf s o K = if isSimple E s.M s.eval o then iopS E cf s.M s.eval o fun v => K (s.put o.dst v) else iopH E cf s o K := by
  unfold iop
  simp only [St.force_eq]
end

/-! ## regions -/

def guardTmp (ops : List Oper) (o : Oper) : Option (Option (Nat × Bool)) :=
  match o.guard with
  | none => some none
  | some (j, want) => (match ops[j]? with
      | some g => (match g.dst with | some t => some (some (t, want)) | none => none)
      | none => none)
section
variable {R : Type} (E : Env) (cf : CallF)
def iopG (all : List Oper) (s : St) (o : Oper) (K : St → Option R) : Option R :=
  match guardTmp all o with
  | none => none
  | some none => iop E cf s o K
  | some (some (t, want)) => (match s.get t with
      | .bool b => cond b
          (if want then iop E cf (s.put (some t) (.bool true)) o K else K ((s.put (some t) (.bool true)).put o.dst (.tup [])))
          (if want then K ((s.put (some t) (.bool false)).put o.dst (.tup [])) else iop E cf (s.put (some t) (.bool false)) o K)
      | .tup [] => K (s.put o.dst (.tup []))
      | _ => none)
def iops (all : List Oper) : List Oper → St → (St → Option R) → Option R
  | [], s, K => K s
  | o :: os, s, K => iopG E cf all s o fun s => iops all os s K

/-! a region whose order is drawn: run in the text's order, and looked at: may its operations change places? -/

def refs1 : V → List Nat
  | .rs id | .pr id _ | .er id _ _ => [id]
  | _ => []
def refs : V → List Nat
  | .agg l | .tup l => l.flatMap refs1
  | v => refs1 v
/-- places that an operation on these operands may change: those, and those within objects there -/
def touch (M : List V) (v : V) : List Nat :=
  refs v ++ (refs v).flatMap fun id => match pl M id with | .pt l => l.flatMap refs1 | _ => []
structure Foot where
  heavy : Bool
  ids : List Nat
  n : Nat
def isGoCall (o : Oper) : Bool :=
  match o.op with
  | .call c => (match c.callee with | .builtin _ => false | _ => true)
  | _ => false
def isRead (M : List V) (ρ : Operand → V) (o : Oper) : Bool := !isGoCall o && isSimple E M ρ o
def footOf (s : St) (o : Oper) : Foot :=
  if isRead E s.M s.eval o then ⟨false, o.op.operands.toList.flatMap fun x => refs (s.eval x), 0⟩
  else ⟨true, o.op.operands.toList.flatMap fun x => touch s.M (s.eval x), s.M.length⟩
def iopsD (all : List Oper) : List Oper → St → List Foot → (St → List Foot → Option R) → Option R
  | [], s, fs, K => K s fs
  | o :: os, s, fs, K =>
    match guardTmp all o with
    | none => none
    | some none => iop E cf s o fun s' => iopsD all os s' (fs ++ [footOf E s o]) K
    | some (some (t, want)) => (match s.get t with
      | .bool b => cond b
          (if want then iop E cf (s.put (some t) (.bool true)) o fun s' => iopsD all os s' (fs ++ [footOf E (s.put (some t) (.bool true)) o]) K
           else iopsD all os ((s.put (some t) (.bool true)).put o.dst (.tup [])) (fs ++ [⟨false, [], 0⟩]) K)
          (if want then iopsD all os ((s.put (some t) (.bool false)).put o.dst (.tup [])) (fs ++ [⟨false, [], 0⟩]) K
           else iop E cf (s.put (some t) (.bool false)) o fun s' => iopsD all os s' (fs ++ [footOf E (s.put (some t) (.bool false)) o]) K)
      | .tup [] => iopsD all os (s.put o.dst (.tup [])) (fs ++ [⟨false, [], 0⟩]) K
      | _ => none)
end
def tmpsOf (o : Oper) (all : List Oper) : List Nat :=
  (o.op.operands.toList.filterMap fun x => match x with | .tmp t => some t | _ => none) ++
  (match guardTmp all o with | some (some (t, _)) => [t] | _ => [])
/-- each operation's forerunners, as a number in binary -/
def ancs : List Oper → List Nat → List Nat
  | [], acc => acc
  | o :: os, acc => ancs os (acc ++ [o.after.toList.foldl (fun s e => if Region.binds .any e = true then s ||| 2 ^ e.on ||| acc.getD e.on 0 else s) 0])
def edgesOK : List Oper → Nat → Bool
  | [], _ => true
  | o :: os, j => (o.after.toList.all fun e => !Region.binds .any e || decide (e.on < j)) && edgesOK os (j + 1)
def clash (all : List Oper) (a b : Oper) (fa fb : Foot) : Bool :=
  (match a.dst with | some d => (tmpsOf b all).contains d || (b.dst == some d) | none => false) ||
  (match b.dst with | some d => (tmpsOf a all).contains d | none => false) ||
  (fa.heavy && fb.heavy) ||
  (fa.heavy && fb.ids.any fun id => fa.ids.contains id || decide (fa.n ≤ id)) || (fb.heavy && fa.ids.any fun id => fb.ids.contains id)
def goodDraw (all : List Oper) (bs : List Nat) (fs : List Foot) : Bool :=
  edgesOK all 0 && (List.range all.length).all fun j => (List.range j).all fun i =>
    (bs.getD j 0).testBit i ||
    (match all[i]?, all[j]?, fs[i]?, fs[j]? with
     | some a, some b, some fa, some fb => !clash all a b fa fb
     | _, _, _, _ => false)

/-! ## code -/

inductive Ex : Type where
  | normal
  | exit (id : Nat)
  | ret

def firstReg : Code → Option Nat
  | .region id _ _ => some id
  | .seq a b => (match firstReg a with | some r => some r | none => firstReg b)
  | .cond _ a b => (match firstReg a with | some r => some r | none => firstReg b)
  | .block _ a => firstReg a
  | .loop a => firstReg a
  | _ => none
def lastReg : Code → Option Nat
  | .region id _ _ => some id
  | .seq a b => (match lastReg b with | some r => some r | none => lastReg a)
  | .cond _ a b => (match lastReg b with | some r => some r | none => lastReg a)
  | .block _ a => lastReg a
  | .loop a => lastReg a
  | _ => none

/-- the places in use, in the order in which they are met -/
def addId (acc : List Nat) (id : Nat) : List Nat := if acc.contains id then acc else acc ++ [id]
def reach1 (acc : List Nat) (v : V) : List Nat :=
  match v with
  | .rs id | .pr id _ | .er id _ _ => addId acc id
  | _ => acc
def reachV (acc : List Nat) (v : V) : List Nat :=
  match v with
  | .agg l | .tup l => l.foldl reach1 acc
  | v => reach1 acc v
def reachM (M : List V) : List Nat → List Nat → List Nat
  | [], acc => acc
  | id :: ids, acc => reachM M ids (match pl M id with | .pt l => l.foldl reach1 acc | _ => acc)
def ren1 (ord : List Nat) (v : V) : V :=
  match v with
  | .rs id => (match ord.idxOf? id with | some j => .rs j | none => .dead)
  | .pr id off => (match ord.idxOf? id with | some j => .pr j off | none => .dead)
  | .er id i off => (match ord.idxOf? id with | some j => .er j i off | none => .dead)
  | v => v
def V.isDead : V → Bool
  | .dead => true
  | _ => false
def renA (ord : List Nat) (v : V) : V :=
  match v with
  | .agg l => cond ((l.map (ren1 ord)).any V.isDead) .dead (.agg (l.map (ren1 ord)))
  | v => ren1 ord v
def renV (ord : List Nat) (v : V) : V :=
  match v with
  | .tup l => .tup (l.map (renA ord))
  | v => renA ord v
/-- what lies in a place -/
def renP (ord : List Nat) (v : V) : V :=
  match v with
  | .pt l => cond ((l.map (ren1 ord)).all okCell) (.pt (l.map (ren1 ord))) .dead
  | v => v
def killOther (m : Mask) (tmps : List V) : List V :=
  tmps.mapIdx fun i v => if m.any (fun p => p.1 == i) then v else .dead
def freezeTmps {R : Type} : Mask → St → (St → Option R) → Option R
  | [], s, K => K s
  | (t, true) :: m, s, K => share s.M (s.get t) fun M v => freezeTmps m ({ s with M := M }.put (some t) v) K
  | (_, false) :: m, s, K => freezeTmps m s K
def canon0 (m : Mask) (s : St) : St :=
  let tmps := killOther m s.tmps
  let ord0 := tmps.foldl reachV (s.roots.foldl addId [])
  let ord := reachM s.M ord0 ord0
  { tmps := tmps.map (renV ord), M := ord.map fun id => renP ord (pl s.M id), roots := s.roots.map fun id => (ord.idxOf? id).getD 0 }
def canon {R : Type} (m : Mask) (s : St) (K : St → Option R) : Option R := freezeTmps m s fun s => (canon0 m s).force K
theorem canon_eq {R : Type} (m : Mask) (s : St) (K : St → Option R) : canon m s K = freezeTmps m s fun s => K (canon0 m s) := by
  unfold canon
  simp only [St.force_eq]

/-- which temporaries are of use: behind a piece of code (by its kind, first and last region) -/
abbrev Live := Nat → Option Nat → Option Nat → Option Mask

/-- a mark in what is printed: two runs that come here with the same state are the same; it cannot be unfolded: 'stop_eq' takes it away -/
noncomputable def stop {α β γ : Type} (_tag : Option Nat) (f : α → β → γ) (a : α) (b : β) : γ := Classical.choose (⟨f a b, rfl⟩ : ∃ r, r = f a b)
theorem stop_eq {α β γ : Type} (tag : Option Nat) (f : α → β → γ) (a : α) (b : β) : stop tag f a b = f a b := Classical.choose_spec (⟨f a b, rfl⟩ : ∃ r, r = f a b)
def codeKind : Code → Nat
  | .region _ _ _ => 0
  | .cond _ _ _ => 1
  | .block _ _ => 2
  | .loop _ => 3
  | _ => 9
def onNormal {R : Type} (Kn : St → Option R) (K : Ex → St → Option R) (e : Ex) (s : St) : Option R :=
  match e with
  | .normal => Kn s
  | e => K e s
def onExit {R : Type} (id : Nat) (K : Ex → St → Option R) (e : Ex) (s : St) : Option R :=
  match e with
  | .exit i => if i = id then K .normal s else K (.exit i) s
  | e => K e s
section
variable {R : Type} (E : Env) (cf : CallF) (N : Nat) (live : Live)
def masked (k : Nat) (c : Code) (s : St) (K : St → Option R) : Option R :=
  match live k (firstReg c) (lastReg c) with
  | some m => canon m s K
  | none => K s
noncomputable def joined (k : Nat) (c : Code) (tag : Option Nat) (f : St → (Ex → St → Option R) → Option R) (s : St) (K : Ex → St → Option R) : Option R :=
  match live k (firstReg c) (lastReg c) with
  | some m => canon m s fun s => stop tag f s K
  | none => f s K
theorem joined_eq (k : Nat) (c : Code) (tag : Option Nat) (f : St → (Ex → St → Option R) → Option R) (s : St) (K : Ex → St → Option R) : joined live k c tag f s K = masked live k c s fun s => f s K := by
  unfold joined masked
  split
  · simp only [stop_eq]
  · rfl
def maskedX (id : Option Nat) (s : St) (K : St → Option R) : Option R :=
  match live 5 id none with
  | some m => canon m s K
  | none => K s
noncomputable def iloop (tag : Option Nat) (body : St → (Ex → St → Option R) → Option R) (head : St → (St → Option R) → Option R) : Nat → St → (Ex → St → Option R) → Option R
  | 0, _, _ => none
  | n + 1, s, K => body s (onNormal (fun s => head s fun s => stop tag (iloop tag body head n) s K) K)
def iregion (ops : Array Oper) (draw : Bool) (s : St) (K : St → Option R) : Option R :=
  cond draw
    (iopsD E cf ops.toList ops.toList s [] fun s fs => cond (goodDraw ops.toList (ancs ops.toList []) fs) (K s) none)
    (iops E cf ops.toList ops.toList s K)
/-- a list in parts of so many -/
def chunks {α : Type} (k : Nat) (l : List α) : List (List α) := if h : l = [] ∨ k = 0 then [] else l.take k :: chunks k (l.drop k)
termination_by l.length
decreasing_by
  have : 0 < l.length := List.length_pos_iff.2 (fun e => h (.inl e))
  rw [List.length_drop]; omega
/-- slices.Chunk: what its iterator yields -/
def seqChunkS (cap : List V) : Option (Bool × List V) :=
  match cap with
  | [.pv [.sl false (.strs l)] 0, .pv [.int .i64 n] 0] => some (decide (0 < n ∧ n ≤ (bound : Int) ∧ l.length ≤ bound), (chunks n.toNat l).map fun c => .sl false (.strs c))
  | _ => none
def seqChunkV (z : Nat) (cap : List V) : Option (Bool × List V) :=
  match cap with
  | [.pv [.sl false (.vals z' l)] 0, .pv [.int .i64 n] 0] => if z' = z then some (decide (0 < n ∧ n ≤ (bound : Int) ∧ l.length ≤ bound), (chunks n.toNat l).map fun c => .sl false (.vals z c)) else none
  | _ => none
/-- a loop over a function: what it yields, one by one; between two rounds all is as it stood at the entry, but what the places hold -/
def okEnt (v : V) : Bool :=
  match v with
  | .rs _ | .pr _ _ | .dead => true
  | v => v.plain
def entIds (tmps : List V) : List Nat := tmps.foldl (fun acc v => match v with | .rs id | .pr id _ => addId acc id | _ => acc) []
def renEnt (ids ids' : List Nat) (v : V) : V :=
  match v with
  | .rs id => (match ids.idxOf? id with | some j => (match ids'[j]? with | some k => .rs k | none => .dead) | none => .dead)
  | .pr id off => (match ids.idxOf? id with | some j => (match ids'[j]? with | some k => .pr k off | none => .dead) | none => .dead)
  | .dead => .dead
  | v => v
def onRound (Kn : St → Option R) (e : Ex) (s : St) : Option R :=
  match e with
  | .normal => Kn s
  | _ => none
noncomputable def irangeG (tag : Option Nat) (m : Mask) (p nr : Nat) (run : St → (Ex → St → Option R) → Option R) : List V → St → (Ex → St → Option R) → Option R
  | [], s, K => K .normal { s with roots := s.roots.take nr }
  | x :: xs, s, K => cond (s.tmps.all okEnt && (entIds s.tmps).all (s.roots.drop nr).contains && x.plain1)
      (run (s.put (some p) x) (onRound fun s2 => canon m { tmps := s.tmps.map (renEnt (s.roots.drop nr) (s2.roots.drop nr)), M := s2.M, roots := s2.roots } fun s3 => stop tag (irangeG tag m p nr run xs) s3 K)) none
def irange0 (q : Option Nat) (g : Operand) (ps : Array Tmp) (s : St) (K : List V → Mask → Nat → Nat → St → Option R) : Option R :=
  match ps.toList with
  | [p] => (match live 6 q none with
    | some m => canon m s fun s => (match s.eval g with
      | .fn id cap => (match E.seq id cap with
        | some xs => cond xs.1 (K xs.2 m p s.roots.length { s with roots := s.roots ++ entIds s.tmps }) none
        | none => none)
      | _ => none)
    | none => none)
  | _ => none
noncomputable def iexecB (c : Code) : Bool → St → (Ex → St → Option R) → Option R :=
  Code.rec (motive := fun _ => Bool → St → (Ex → St → Option R) → Option R)
    (fun _ s K => K .normal s)
    (fun _ ops draw _ s K => iregion E cf ops draw s (K .normal))
    (fun a b iha ihb top s K => iha top s (onNormal (fun s => joined live (codeKind a) a (firstReg b) (ihb top) s K) K))
    (fun c _ _ iht ihe top s K => match s.eval c with
      | .bool b => cond b (iht top s K) (ihe top s K)
      | _ => none)
    (fun id _ ih top s K => ih top s (onExit id K))
    (fun body ih top s K => masked live 4 body s fun s => stop (firstReg body) (iloop (firstReg body) (ih top) (masked live 4 body) N) s K)
    (fun g ps assign _ ihA ihB top s K => cond top (irange0 E live (firstReg assign) g ps s fun xs m p nr s =>
      stop (firstReg assign) (irangeG (firstReg assign) m p nr (fun s K => ihA false s (onNormal (fun s => ihB false s K) K)) xs) s K) none)
    (fun id _ s K => maskedX live (some id) s (K (.exit id)))
    (fun _ _ _ _ _ => none)
    (fun _ _ _ _ => none)
    (fun _ _ _ _ => none)
    (fun _ s K => maskedX live none s (K .ret))
    (fun _ _ _ _ => none)
    c
noncomputable def iexec (c : Code) : St → (Ex → St → Option R) → Option R := iexecB E cf N live c true
/-- a place in the code, and what comes behind it: 0, 1: the parts of a sequence; 2, 3: of a condition; 4: a block's; 5: a loop's, so many rounds being left -/
noncomputable def kont : List Nat → List Nat → Code → (Ex → St → Option R) → Code × (Ex → St → Option R)
  | 0 :: p, fs, .seq a b, K => kont p fs a (onNormal (fun s => joined live (codeKind a) a (firstReg b) (iexec E cf N live b) s K) K)
  | 1 :: p, fs, .seq _ b, K => kont p fs b K
  | 2 :: p, fs, .cond _ a _, K => kont p fs a K
  | 3 :: p, fs, .cond _ _ b, K => kont p fs b K
  | 4 :: p, fs, .block id a, K => kont p fs a (onExit id K)
  | 5 :: p, m :: fs, .loop a, K => kont p fs a (onNormal (fun s => masked live 4 a s fun s => stop (firstReg a) (iloop (firstReg a) (iexec E cf N live a) (masked live 4 a) m) s K) K)
  | _, _, c, K => (c, K)
noncomputable def cutE (tag : Option Nat) (p fs : List Nat) (c : Code) (K : Ex → St → Option R) (s : St) : Option R :=
  stop tag (iexec E cf N live (kont E cf N live p fs c K).1) s (kont E cf N live p fs c K).2
noncomputable def loopAt (tag : Option Nat) (j : Nat) (c : Code) : St → (Ex → St → Option R) → Option R :=
  match c with
  | .loop a => iloop tag (iexec E cf N live a) (masked live 4 a) j
  | _ => fun _ _ => none
noncomputable def rangeAt (tag : Option Nat) (m : Mask) (p nr : Nat) (c : Code) : List V → St → (Ex → St → Option R) → Option R :=
  match c with
  | .rangeFunc _ _ a b => irangeG tag m p nr (fun s K => iexecB E cf N live a false s (onNormal (fun s => iexecB E cf N live b false s K) K))
  | _ => fun _ _ _ => none
noncomputable def cutR (tag : Option Nat) (q fs : List Nat) (m : Mask) (p nr : Nat) (c : Code) (K : Ex → St → Option R) (xs : List V) (s : St) : Option R :=
  stop tag (rangeAt E cf N live tag m p nr (kont E cf N live q fs c K).1 xs) s (kont E cf N live q fs c K).2
noncomputable def cutL (tag : Option Nat) (p fs : List Nat) (c : Code) (K : Ex → St → Option R) (j : Nat) (s : St) : Option R :=
  stop tag (loopAt E cf N live tag j (kont E cf N live p fs c K).1) s (kont E cf N live p fs c K).2
end

/-! ## calls -/

def rootOf (M : List V) : V → List Nat
  | .pt l => [(layL M l).1.length]
  | _ => []
def enterArgs : List V → List V → List Nat → List V × List V × List Nat
  | [], M, roots => ([], M, roots)
  | v :: vs, M, roots => ((lay M v).2 :: (enterArgs vs (lay M v).1 (roots ++ rootOf M v)).1, (enterArgs vs (lay M v).1 (roots ++ rootOf M v)).2)
def enter (ntmps : Nat) (args : List V) : St :=
  let r := enterArgs args [] []
  { tmps := r.1 ++ List.replicate (ntmps - args.length) .dead, M := r.2.1, roots := r.2.2 }

def V.toShared1 : V → V
  | .sl _ a => .sl false a
  | v => v
def V.toShared : V → V
  | .pt l => .pv (l.map V.toShared1) 0
  | .agg l => .agg (l.map V.toShared1)
  | v => v.toShared1
/-- as a result's shape wants it: what is owned may be given as shared -/
def fitC (s : SL) (v : V) : V :=
  match s, v with
  | .sl false _, .sl _ a => .sl false a
  | _, v => v
def fitCs : List SL → List V → List V
  | s :: ss, v :: vs => fitC s v :: fitCs ss vs
  | _, vs => vs
def fit1 (s : S1) (v : V) : V :=
  match s, v with
  | .leaf (.sl false _), v => v.toShared
  | .pv _, v => v.toShared
  | .pvn _, v => v.toShared
  | .agg ss, .agg l => .agg (fitCs ss l)
  | .pt ss, .pt l => .pt (fitCs ss l)
  | _, v => v
def fitL : List S1 → List V → List V
  | s :: ss, v :: vs => fit1 s v :: fitL ss vs
  | _, vs => vs
section
variable {R : Type} (E : Env)
def resOne (s : St) (r : ResultVar) (K : V → Option R) : Option R :=
  match r with
  | .tmp t => K (s.get t)
  | .cell a t => loadV E s.M t (s.get a) K
def resAll (s : St) : List ResultVar → (List V → Option R) → Option R
  | [], K => K []
  | r :: rs, K => resOne E s r fun v => resAll s rs fun vs => K (v :: vs)
def outsOf (M : List V) : List Nat → (List V → Option R) → Option R
  | [], K => K []
  | id :: ids, K => take M (.pr id 0) fun M v => outsOf M ids fun vs => K (v :: vs)
def finish (sg : Sig) (fn : Func) (s : St) : Option (V × List V) :=
  resAll E s fn.results.toList fun vs => takeAll s.M vs fun M vs => outsOf M s.roots fun outs =>
    (match sg.res, vs with
     | .one sh, [v] => some (fit1 sh v, fitL sg.outs outs)
     | .tup l, vs => if vs.length = 1 then none else some (.tup (fitL l vs), fitL sg.outs outs)
     | _, _ => none)
def kfin (sg : Sig) (fn : Func) (e : Ex) (s : St) : Option (V × List V) :=
  match e with
  | .exit _ => none
  | _ => finish E sg fn s
def bodyOf (fn : Func) : Code :=
  match fn.body with
  | some c => c
  | none => .refuse ""
noncomputable def ibody (cf : CallF) (N : Nat) (live : Live) (sg : Sig) (fn : Func) (args : List V) : Option (V × List V) :=
  iexec E cf N live (bodyOf fn) (enter fn.ntmps args) (kfin E sg fn)
/-- a state, told by what is of use in it -/
def mkSt (n : Nat) (ts : List (Nat × V)) (M : List V) (roots : List Nat) : St :=
  { tmps := ts.foldl (fun l p => l.set p.1 p.2) (List.replicate n .dead), M := M, roots := roots }
end
end Go.Proofs.Ytfkkigbbejhfbaa.Idl
