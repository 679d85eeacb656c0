/- The abstract machine's operations. Definitions only. -/
import Derived.Test.YtogokiglmhnjkaaLabB3
import Derived.Laws.BytesArg
import GoSem.Dispatch
set_option linter.unusedVariables false
set_option linter.unusedSimpArgs false
namespace Go.AM

/-- What an operation of the model comes to if it looks at nothing but its operands and the program. -/
def pureOf {α : Type} (P : Program) : Sem α → Option α
  | .pure a => some a
  | .program k => pureOf P (k P)
  | .mark _ k => pureOf P k
  | _ => none

def scal : V → Option Value
  | .i (.s x) => some x
  | _ => none

def scalI : I → Option Value
  | .s x => some x
  | _ => none

def toVal : I → Option Value
  | .s x => some x
  | .agg cs => (cs.mapM scalI).map fun l => .agg l.toArray
  | .tup cs => (cs.mapM scalI).map fun l => .tuple l.toArray
  | _ => none

def toValV : V → Option Value
  | .i x => toVal x
  | .agg cs => (cs.mapM scal).map fun l => .agg l.toArray
  | _ => none

def ofVal : Value → Option I
  | .agg cs => if cs.toList.all plain then some (.agg (cs.toList.map .s)) else none
  | .tuple cs => if cs.toList.all plain then some (.tup (cs.toList.map .s)) else none
  | v => if plain v then some (.s v) else none

/-- What an operation of integers comes to, by its values alone. -/
def intBin (op : BinOp) (k : IntKind) (a : Int) (k' : IntKind) (b : Int) : Option Value :=
  match op with
  | .shl => if b < 0 then none else some (.int k (k.wrap (a * 2 ^ min b.toNat k.bits)))
  | .shr => if b < 0 then none else some (.int k (a.fdiv (2 ^ min b.toNat k.bits)))
  | .add => if k = k' then some (.int k (k.wrap (a + b))) else none
  | .sub => if k = k' then some (.int k (k.wrap (a - b))) else none
  | .mul => if k = k' then some (.int k (k.wrap (a * b))) else none
  | .quo => if k = k' ∧ b ≠ 0 then some (.int k (k.wrap (a.tdiv b))) else none
  | .rem => if k = k' ∧ b ≠ 0 then some (.int k (a.tmod b)) else none
  | .and => if k = k' then some (.int k (k.wrap (BitVec.ofInt k.bits a &&& BitVec.ofInt k.bits b).toNat)) else none
  | .or => if k = k' then some (.int k (k.wrap (BitVec.ofInt k.bits a ||| BitVec.ofInt k.bits b).toNat)) else none
  | .xor => if k = k' then some (.int k (k.wrap (BitVec.ofInt k.bits a ^^^ BitVec.ofInt k.bits b).toNat)) else none
  | .andNot => if k = k' then some (.int k (k.wrap (BitVec.ofInt k.bits a &&& ~~~ (BitVec.ofInt k.bits b)).toNat)) else none
  | .eql => if k = k' then some (.bool (decide (a = b))) else none
  | .neq => if k = k' then some (.bool (!decide (a = b))) else none
  | .lss => if k = k' then some (.bool (decide (a < b))) else none
  | .leq => if k = k' then some (.bool (decide (a ≤ b))) else none
  | .gtr => if k = k' then some (.bool (decide (b < a))) else none
  | .geq => if k = k' then some (.bool (decide (b ≤ a))) else none

def strBin (op : BinOp) (x y : ByteArray) : Option Value :=
  match op with
  | .add => if ((x.size + y.size : Nat) : Int) ≤ 9223372036854775807 then some (.string (x ++ y)) else none
  | .eql => some (.bool (decide (x = y)))
  | .neq => some (.bool (!decide (x = y)))
  | .lss => some (.bool (Op.bytesLess x.toList y.toList))
  | .leq => some (.bool (Op.bytesLess x.toList y.toList || decide (x = y)))
  | .gtr => some (.bool (!(Op.bytesLess x.toList y.toList || decide (x = y))))
  | .geq => some (.bool (!Op.bytesLess x.toList y.toList))
  | _ => none

/-- Operations that know no types. -/
inductive NPu where
  | ar (op : BinOp)
  | beq (neg : Bool)
  | un (op : UnOp)
  | conv (k : IntKind)
  | convS
  | idx
  | len
  | max
  | min
  | slS (lo hi : Bool)

def strSl (s : ByteArray) (l h : Int) : Option Value := if 0 ≤ l ∧ l ≤ h ∧ h ≤ s.size then some (.string (s.extract l.toNat h.toNat)) else none

def npu : NPu → List Value → Option Value
  | .ar op, [.int k a, .int k' b] => intBin op k a k' b
  | .ar op, [.string a, .string b] => strBin op a b
  | .beq neg, [.bool a, .bool b] => some (.bool (xor neg (a == b)))
  | .un .not, [.bool a] => some (.bool (!a))
  | .un .neg, [.int k n] => some (.int k (k.wrap (0 - n)))
  | .conv k, [.int _ n] => some (.int k (k.wrap n))
  | .convS, [.string s] => some (.string s)
  | .idx, [.string s, .int _ i] => if 0 ≤ i then (s.data[i.toNat]?).map fun b => .int .u8 b.toNat else none
  | .len, [.string s] => some (.int .i64 (s.size : Nat))
  | .max, [.int k x, .int _ y] => some (.int k (if y > x then y else x))
  | .min, [.int k x, .int _ y] => some (.int k (if y < x then y else x))
  | .slS false false, [.string s] => strSl s 0 s.size
  | .slS true false, [.string s, .int _ l] => strSl s l s.size
  | .slS false true, [.string s, .int _ h] => strSl s 0 h
  | .slS true true, [.string s, .int _ l, .int _ h] => strSl s l h
  | _, _ => none

inductive Pu where
  | n (q : NPu)
  | bin (op : BinOp) (t : TypeId) (x y : Operand)
  | un (op : UnOp)
  | conv (s d : TypeId)
  | idx (t : TypeId)
  | len (ats : Array TypeId) (t : TypeId)
  | max (ats : Array TypeId) (t : TypeId)
  | min (ats : Array TypeId) (t : TypeId)
  | slS (t : TypeId) (lo hi : Bool)
  | field (t : TypeId) (f : Nat)

def Pu.run : Pu → List Value → Sem Value
  | .n q, vs => match npu q vs with | some v => pure v | none => stuck ""
  | .bin op t x y, [a, b] => do eqGuard op t x y a b; binOp op t a b
  | .un op, [a] => Op.unary op a
  | .conv s d, [a] => convert s d a
  | .idx t, [a, i] => Instr.index t a i
  | .len ats t, [a] => Builtin.len_ ats t #[a]
  | .max ats t, as => Builtin.max_ ats t as.toArray
  | .min ats t, as => Builtin.min_ ats t as.toArray
  | .slS t false false, [a] => Instr.sliceAt t a none none none
  | .slS t true false, [a, l] => Instr.sliceAt t a (some l) none none
  | .slS t false true, [a, h] => Instr.sliceAt t a none (some h) none
  | .slS t true true, [a, l, h] => Instr.sliceAt t a (some l) (some h) none
  | .field t f, [a] => Instr.field t a f
  | _, _ => stuck ""

inductive SK where
  | int (k : IntKind)
  | bool
  | str

def SK.fits : SK → Value → Bool
  | .int k, .int k' _ => decide (k = k')
  | .bool, .bool _ => true
  | .str, .string _ => true
  | _, _ => false

def fitsL : List SK → List Value → Bool
  | [], [] => true
  | k :: ks, v :: vs => k.fits v && fitsL ks vs
  | _, _ => false

def eqV : Value → Value → Bool
  | .int _ a, .int _ b => decide (a = b)
  | .bool a, .bool b => a == b
  | .string a, .string b => decide (a = b)
  | _, _ => false

def eqL : List Value → List Value → Bool
  | [], [] => true
  | x :: xs, y :: ys => eqV x y && eqL xs ys
  | _, _ => false

/-- The first of these that is like a. -/
def hit (a : List Value) : List (List Value) → Option Nat
  | [] => none
  | c :: cs => if eqL a c then some 0 else (hit a cs).map (· + 1)

inductive AOp where
  | mv (x : Operand)
  | pick (c a b : Operand)
  | pu (p : Pu) (xs : List Operand)
  | alloc (zero : List Value)
  | vnil (z : Nat) (ag : Bool)
  | storeV (hs : List (Nat × Bool)) (z : Nat) (a x : Operand)
  | aeq (neg : Bool) (ks : List SK) (x y : Operand)
  | allocV (hs : List (Nat × Bool)) (zero : List Value)
  | box (x : Operand)
  | build (zero : List Value) (parts : List (Nat × Nat × Operand))
  | buildSl (z : Nat) (ag : Bool) (n : Nat) (zero : List Value) (parts : List (Nat × Operand))
  | load (z : Nat) (ag : Bool) (a : Operand)
  | store (z : Nat) (a x : Operand)
  | nilChk (x : Operand)
  | fieldA (off : Nat) (x : Operand)
  | field (off z : Nat) (ag : Bool) (x : Operand)
  | idxS (z : Nat) (x i : Operand)
  | idxA (n z : Nat) (x i : Operand)
  | idxV (n z : Nat) (ag : Bool) (x i : Operand)
  | slice (z : Nat) (x : Operand) (lo hi : Option Operand)
  | sliceA (n z : Nat) (ag : Bool) (x : Operand) (lo hi : Option Operand)
  | len (x : Operand)
  | append (z : Nat) (ag : Bool) (bytes : Nat) (s x : Operand)
  | extract (k : Nat) (x : Operand)
  | b2s (x : Operand)
  | makeSl (z : Nat) (ag : Bool) (bytes : Nat) (zero : List Value) (l c : Operand)
  | clo (f : Nat) (caps : List Operand)
  | ifc (t : Nat) (x : Operand)
  | makeMap
  | lookup (kg : Bool) (ks : List SK) (ag : Bool) (zero : List Value) (ok : Bool) (m k : Operand)
  | mapSet (kg : Bool) (ks : List SK) (m k x : Operand)
  | del (kg : Bool) (ks : List SK) (m k : Operand)
  | mlen (m : Operand)
  | call (f : Nat) (args : List Operand)
  | callV (f : Nat) (hs : List (Nat × Bool)) (args : List Operand)
  | appendV (z : Nat) (ag : Bool) (bytes : Nat) (x : Operand)
  | dyn (f : Operand) (args : List Operand)

structure AOper where
  dst : Option Nat
  op : AOp
  guard : Option (Nat × Bool)
  apart : List Operand
  slot : Option Nat

structure St where
  t : Nat → V
  h : Heap

def undefV : V := .i (.tup [])

def St.ev (st : St) : Operand → V
  | .tmp k => st.t k
  | .const v => match ofVal v with | some x => .i x | none => .bad
  | .func f => .clo f []
  | .global _ => .bad

def newSlot (slot : Option Nat) (h : Heap) (s : Slot) : Option (Nat × Heap) :=
  match slot with
  | none => some (h.length, h ++ [s])
  | some b => match h[b]? with
    | some .free => some (b, h.set b s)
    | _ => none

/-- The cells of a struct's or an array's value, if they are scalars. -/
def scalsV (v : V) : Option (List Value) := match v with
  | .agg cs => cs.mapM scal
  | .i (.agg cs) => cs.mapM scalI
  | _ => none

def splice (cs : List V) (off : Nat) (ys : List V) : List V := cs.take off ++ ys ++ cs.drop (off + ys.length)

def fillV (st : St) : List V → List (Nat × Nat × Operand) → Option (List V)
  | cs, [] => some cs
  | cs, (off, size, x) :: rest =>
    let ys := (st.ev x).cells
    if ys.all V.one = true ∧ ys.length = size ∧ off + size ≤ cs.length then fillV st (splice cs off ys) rest else none

def intV : V → Option Int
  | .i (.s (.int _ n)) => some n
  | _ => none

/-- A row of a slice, out of its cells. -/
def rowV (ag : Bool) (cs : List V) : Option V := if ag then some (.agg cs) else cs[0]?

/-- The cells that a slice value holds (what is appended). -/
def srcCells (h : Heap) : V → Option (List V)
  | .hsl b g off z _ len => (getCells h b g).map fun cs => (cs.drop off).take (len * z)
  | .i (.sl _ xs) => some ((xs.flatMap I.cells).map .i)
  | .i (.s (.string s)) => some (s.data.toList.map fun b => .i (.s (.int .u8 b.toNat)))
  | .i (.s (.slice none 0 0)) => some []
  | _ => none

def lenV : V → Option Nat
  | .hsl _ _ _ _ _ len => some len
  | .i (.sl _ xs) => some xs.length
  | .i (.s (.string s)) => some s.size
  | .i (.s (.slice none 0 0)) => some 0
  | _ => none

def lenS : V → Option Nat
  | .hsl _ _ _ _ _ len => some len
  | .i (.sl _ xs) => some xs.length
  | .i (.s (.slice none 0 0)) => some 0
  | _ => none

def bytesOf : List V → Option (List Int)
  | [] => some []
  | .i (.s (.int .u8 n)) :: rest => (bytesOf rest).map (n :: ·)
  | _ => none

def boundHi (st : St) (hi : Option Operand) (len : Nat) : Option Nat :=
  match hi with
  | none => some len
  | some o => (intV (st.ev o)).bind fun n => if 0 ≤ n ∧ n ≤ len then some n.toNat else none

def boundLo (st : St) (lo : Option Operand) (h : Nat) : Option Nat :=
  match lo with
  | none => some 0
  | some o => (intV (st.ev o)).bind fun n => if 0 ≤ n ∧ n ≤ h then some n.toNat else none

def bounds (st : St) (lo hi : Option Operand) (len : Nat) : Option (Nat × Nat) :=
  (boundHi st hi len).bind fun h => (boundLo st lo h).map fun l => (l, h)

end Go.AM
