/- The definitions of an abstract interpreter over a loaded program: slices are lists, boxes and maps lie in a small heap of their own. -/
import Derived.WalkKit
import Derived.Lib.Bytealg
import Derived.CheckFast
import Derived.Laws.BitsLemmas
/- The definitions of an abstract interpreter over a loaded program: slices are lists, boxes and maps lie in a small heap of their own. -/
set_option linter.unusedVariables false
namespace Go.Sx
noncomputable section

/-! ### Finite maps from numbers -/
inductive Tr (α : Type) where
  | leaf
  | node (l : Tr α) (v : Option α) (r : Tr α)

namespace Tr
variable {α : Type}
def stp {β : Type} (n : Nat) (even odd zero : β) : β :=
  Bool.casesOn (motive := fun _ => β) (Nat.beq n 0) (Bool.casesOn (motive := fun _ => β) (Nat.beq (Nat.mod n 2) 1) even odd) zero

def get (t : Tr α) : Nat → Option α :=
  Tr.rec (motive := fun _ => Nat → Option α) (fun _ => none)
    (fun _ v _ gl gr n => stp n (gr (Nat.div (Nat.sub n 1) 2)) (gl (Nat.div n 2)) v) t

def setF (f : Nat) : Tr α → Nat → α → Tr α :=
  Nat.rec (motive := fun _ => Tr α → Nat → α → Tr α) (fun t _ _ => t)
    (fun _ ih t n a => Tr.casesOn (motive := fun _ => Tr α) t
      (stp n (node leaf none (ih leaf (Nat.div (Nat.sub n 1) 2) a)) (node (ih leaf (Nat.div n 2) a) none leaf) (node leaf (some a) leaf))
      (fun l v r => stp n (node l v (ih r (Nat.div (Nat.sub n 1) 2) a)) (node (ih l (Nat.div n 2) a) v r) (node l (some a) r))) f

def set (t : Tr α) (n : Nat) (a : α) : Tr α := setF (n + 1) t n a
end Tr

/-! ### Values -/
inductive Tok where
  | full
  | own (b sz : Nat)
  | unk
  deriving DecidableEq, Inhabited

/-- The type of a scalar that is told by an expression. -/
inductive STy where
  | int (k : IntKind)
  | bool
  | str
  deriving DecidableEq, Inhabited

/-- The shape of a cell: a scalar, bytes, a list of rows; rows are cells one behind another. -/
inductive Sh where
  | sc (t : STy)
  | bytes
  | li (el : Sh)
  | nil
  | cons (h t : Sh)
  deriving DecidableEq, Inhabited

/-- Expressions over the unknowns: numbers, Bools, texts; lists of rows, cells. -/
inductive SE where
  | ivar (k : IntKind) (n : Nat)
  | int (k : IntKind) (i : Int)
  | bin (op : BinOp) (k : IntKind) (a b : SE)
  | conv (k : IntKind) (a : SE)
  | max (isMax : Bool) (a b : SE)
  | len (a : SE)
  | bvar (n : Nat)
  | bool (b : Bool)
  | cmp (op : BinOp) (a b : SE)
  | eqs (a b : SE)
  | eqb (a b : SE)
  | not (a : SE)
  | and (a b : SE)
  | svar (n : Nat)
  | str (s : ByteArray)
  | ite (c a b : SE)
  | byte (s i : SE)
  | cat (a b : SE)
  | sub (s a b : SE)
  | chr (a : SE)
  | dvar (n : Nat)
  | dcell (e i : SE) (j : Nat)
  | dlen (e : SE)
  | dnil (e : SE)
  | dleaf (t : STy) (e : SE)
  | dcut (e a b : SE)
  | dsnoc (e r : SE)
  | dcat (e f : SE)
  | dsc (t : STy) (a : SE)
  | dtx (nl a : SE)
  | dli (nl e : SE)
  | dlst
  deriving Inhabited

def SE.beq : SE → SE → Bool
  | .ivar k a, .ivar k' b => Nat.beq a b && k == k'
  | .int k a, .int k' b => a == b && k == k'
  | .bin o k a b, .bin o' k' a' b' => o == o' && (k == k' && (a.beq a' && b.beq b'))
  | .conv k a, .conv k' b => k == k' && a.beq b
  | .max m a b, .max m' a' b' => m == m' && (a.beq a' && b.beq b')
  | .len a, .len b => a.beq b
  | .bvar a, .bvar b => Nat.beq a b
  | .bool a, .bool b => a == b
  | .cmp o a b, .cmp o' a' b' => o == o' && (a.beq a' && b.beq b')
  | .eqs a b, .eqs a' b' => a.beq a' && b.beq b'
  | .eqb a b, .eqb a' b' => a.beq a' && b.beq b'
  | .not a, .not b => a.beq b
  | .and a b, .and a' b' => a.beq a' && b.beq b'
  | .svar a, .svar b => Nat.beq a b
  | .str a, .str b => a == b
  | .ite c a b, .ite c' a' b' => c.beq c' && (a.beq a' && b.beq b')
  | .byte a b, .byte a' b' => a.beq a' && b.beq b'
  | .cat a b, .cat a' b' => a.beq a' && b.beq b'
  | .sub c a b, .sub c' a' b' => c.beq c' && (a.beq a' && b.beq b')
  | .chr a, .chr b => a.beq b
  | .dvar a, .dvar b => Nat.beq a b
  | .dcell e i j, .dcell e' i' j' => Nat.beq j j' && (e.beq e' && i.beq i')
  | .dlen a, .dlen b => a.beq b
  | .dnil a, .dnil b => a.beq b
  | .dleaf t a, .dleaf t' b => t == t' && a.beq b
  | .dcut c a b, .dcut c' a' b' => c.beq c' && (a.beq a' && b.beq b')
  | .dsnoc a b, .dsnoc a' b' => a.beq a' && b.beq b'
  | .dcat a b, .dcat a' b' => a.beq a' && b.beq b'
  | .dsc t a, .dsc t' b => t == t' && a.beq b
  | .dtx a b, .dtx a' b' => a.beq a' && b.beq b'
  | .dli a b, .dli a' b' => a.beq a' && b.beq b'
  | .dlst, .dlst => true
  | _, _ => false

def Sh.beq : Sh → Sh → Bool
  | .sc t, .sc t' => t == t'
  | .bytes, .bytes => true
  | .li a, .li b => a.beq b
  | .nil, .nil => true
  | .cons a b, .cons a' b' => a.beq a' && b.beq b'
  | _, _ => false

inductive V where
  | val (v : Value)
  | sym (t : STy) (e : SE)
  | ptr (b off : Nat)
  | cptr (cells : List V)
  | list (nil : Bool) (es : List (List V)) (tok : Tok)
  | mslice (b off len cap : Nat)
  | vslice (b off len kc sz : Nat)
  | sli (k : Sh) (nl e : SE) (tok : Tok)
  | map (m : Nat)
  | func (fn : Fn) (first captured : List V)
  | yield (k : Nat)
  | iface (t : TypeId) (v : V)
  | agg (cells : List V)
  | tuple (vs : List V)
  | top
  deriving Inhabited

abbrev V.int (n : Int) : V := .val (.int .i64 n)
abbrev V.bool (b : Bool) : V := .val (.bool b)
abbrev V.str (s : ByteArray) : V := .val (.string s)
abbrev V.undef : V := .tuple []

/-- A value of one cell that leads to no memory. -/
def plain : Value → Bool
  | .bool _ | .int .. | .float .. | .complex .. | .string _ | .pointer none | .map none | .chan none | .nilFunc | .nilIface => true
  | _ => false

def V.one : V → Bool
  | .agg _ | .tuple _ | .top => false
  | _ => true

def V.cells : V → List V
  | .agg cs => cs
  | v => [v]

def ofCell : Value → Option V
  | .slice none 0 0 => some (.list true [] .full)
  | v => if plain v then some (.val v) else none

def ofValue : Value → Option V
  | .agg cs => (cs.toList.mapM ofCell).map .agg
  | v => ofCell v

def toCell : V → Option Value
  | .val v => if plain v then some v else none
  | .iface t (.val v) => if plain v then some (.iface t v) else none
  | _ => none

def toValue : V → Option Value
  | .agg cs => (cs.mapM toCell).map fun l => .agg l.toArray
  | v => toCell v

/-! ### Memory -/
inductive Blk where
  | cells (cs : List V)
  | tail (live : Bool)
  | map (es : List (Value × V × Nat)) (clock : Nat)
  | siter (s : ByteArray) (pos : Nat)
  | miter (m : Option Nat) (since : Nat) (seen : List Nat) (stepped : Nat)
  | loop (env : Tr V) (ps : Array Tmp) (asg body : Code) (st : LoopState) (pend : Option Code)
  deriving Inhabited

structure Heap where
  tab : Tr Blk
  next : Nat
  base : Nat
  low : Option Nat

namespace Heap
def get (H : Heap) (b : Nat) : Option Blk := H.tab.get b
def touch (H : Heap) (b : Nat) : Option Nat := if b < H.base then some (match H.low with | some l => min l b | none => b) else H.low
/-- A block that is there gets a new content. -/
def put (H : Heap) (b : Nat) (x : Blk) : Heap := { H with tab := H.tab.set b x, low := H.touch b }
/-- A new block. -/
def new (H : Heap) (x : Blk) : Option Heap := some { H with tab := H.tab.set H.next x, next := H.next + 1 }
end Heap

abbrev Env := Tr V
structure St where
  env : Env
  h : Heap

inductive Ex where
  | normal
  | exit (id : Nat)
  | goto (l : Nat)
  | ret
  deriving DecidableEq, Inhabited

/-- The ways out of a loop, by conditions on the unknowns: what stands in the frame behind it. -/
inductive OTree where
  | leaf (e : Ex) (env : Env) (ds : List (Nat × Blk)) (nx : Nat)
  | node (c : SE) (a b : OTree)

/-! ### Tables of the program -/
structure Tb where
  rho : Nat → Value
  func : Nat → Option Func
  desc : TypeId → Option TypeDesc
  info : TypeId → Option (Nat × Nat × Option Value)
  glob : Nat → Option (List Value)
  dead : Nat → List Nat := fun _ => []
  renT : Nat → List Nat := fun _ => []
  ren : Nat → Nat → SE → Option Nat := fun _ _ _ => none
  spec : Nat → List V → Heap → Option (V × List (SE × Bool)) := fun _ _ _ => none
  loopT : Nat → St → Option OTree := fun _ _ => none

structure Tb.Ok (P : Program) (tb : Tb) : Prop where
  func : ∀ f fn, tb.func f = some fn → P.funcs[f]? = some fn ∧ (fn.name == "runtime.NumGoroutine") = false
  desc : ∀ t d, tb.desc t = some d → P.underlying t = some d
  info : ∀ t n b z, tb.info t = some (n, b, z) → ∃ i, P.info? t = some i ∧ i.size = n ∧ i.bytes = b ∧ i.zero = z
  mixed : P.follows .mixedOrders = true

namespace Tb
def size (tb : Tb) (t : TypeId) : Option Nat := (tb.info t).map (·.1)
def bytes (tb : Tb) (t : TypeId) : Option Nat := (tb.info t).map (·.2.1)
def zero (tb : Tb) (t : TypeId) : Option V := (tb.info t).bind fun i => i.2.2.bind ofValue
def agg (tb : Tb) (t : TypeId) : Option Bool := (tb.desc t).map fun d => match d with | .struct _ | .array .. => true | _ => false
end Tb

/-- A piece of the model that asks no memory and no tape. -/
def pureRun {α : Type} (P : Program) : Sem α → Option α
  | .pure a => some a
  | .program k => pureRun P (k P)
  | _ => none

def evT (env : Env) (t : Nat) : V := (env.get t).getD V.undef

def ev (tb : Tb) (env : Env) : Operand → V
  | .tmp t => evT env t
  | .const v => (ofValue v).getD .top
  | .global g => match tb.glob g with
    | some l => match l.mapM ofCell with
      | some cs => .cptr cs
      | none => .top
    | none => .top
  | .func f => .func (.func f) [] []

/-! ### Operations without memory -/
def intBin (op : BinOp) (k : IntKind) (a : Int) (k' : IntKind) (b : Int) : Option Value :=
  match op with
  | .shl => if b < 0 then none else some (.int k (k.wrap (a * 2 ^ (min b.toNat k.bits))))
  | .shr => if b < 0 then none else some (.int k (a.fdiv (2 ^ (min b.toNat k.bits))))
  | .add => if k = k' then some (.int k (k.wrap (a + b))) else none
  | .sub => if k = k' then some (.int k (k.wrap (a - b))) else none
  | .mul => if k = k' then some (.int k (k.wrap (a * b))) else none
  | .quo => if k = k' then (if b = 0 then none else some (.int k (k.wrap (a.tdiv b)))) else none
  | .rem => if k = k' then (if b = 0 then none else some (.int k (a.tmod b))) else none
  | .and => if k = k' then some (.int k (bits .and k a b)) else none
  | .or => if k = k' then some (.int k (bits .or k a b)) else none
  | .xor => if k = k' then some (.int k (bits .xor k a b)) else none
  | .andNot => if k = k' then some (.int k (bits .andNot k a b)) else none
  | .eql => if k = k' then some (.bool (a == b)) else none
  | .neq => if k = k' then some (.bool (a != b)) else none
  | .lss => if k = k' then some (.bool (decide (a < b))) else none
  | .leq => if k = k' then some (.bool (decide (a ≤ b))) else none
  | .gtr => if k = k' then some (.bool (decide (a > b))) else none
  | .geq => if k = k' then some (.bool (decide (a ≥ b))) else none

def numOf : Value → Int
  | .int _ i => i
  | _ => 0
def truthOf : Value → Bool
  | .bool b => b
  | _ => false
def textOf : Value → ByteArray
  | .string s => s
  | _ => .empty

/-- The byte of a text at a place. -/
def byteAt (s : ByteArray) (i : Int) : Int := if 0 ≤ i then (match s[i.toNat]? with | some b => (b.toNat : Int) | none => 0) else 0

/-- Data: lists of rows, rows of cells; what is no list and no text is nil. -/
def isNilD : Value → Bool
  | .agg _ | .string _ => false
  | _ => true
def elsD : Value → List Value
  | .agg l => l.toList
  | _ => []
def cellD (r : Value) (j : Nat) : Value := (elsD r).getD j .nilFunc
def leafD : STy → Value → Value
  | .int k, d => .int k (k.wrap (numOf d))
  | .bool, d => .bool (truthOf d)
  | .str, d => .string (textOf d)
def listD (l : List Value) : Value := .agg l.toArray

/-- What an expression comes to, as a number, as a Bool, as a text or data. -/
def SE.all (ρ : Nat → Value) : SE → Int × Bool × Value
  | .ivar k n => (match ρ n with | .int _ i => k.wrap i | _ => 0, false, .nilFunc)
  | .int k i => (i, false, .nilFunc)
  | .bin op k a b => (match intBin op k (a.all ρ).1 k (b.all ρ).1 with | some v => numOf v | none => 0, false, .nilFunc)
  | .conv k a => (k.wrap (a.all ρ).1, false, .nilFunc)
  | .max m a b => (if m then (if (b.all ρ).1 > (a.all ρ).1 then (b.all ρ).1 else (a.all ρ).1) else (if (b.all ρ).1 < (a.all ρ).1 then (b.all ρ).1 else (a.all ρ).1), false, .nilFunc)
  | .len a => ((textOf (a.all ρ).2.2).size, false, .nilFunc)
  | .bvar n => (0, truthOf (ρ n), .nilFunc)
  | .bool b => (0, b, .nilFunc)
  | .cmp op a b => (0, match intBin op .i64 (a.all ρ).1 .i64 (b.all ρ).1 with | some v => truthOf v | none => false, .nilFunc)
  | .eqs a b => (0, textOf (a.all ρ).2.2 == textOf (b.all ρ).2.2, .nilFunc)
  | .eqb a b => (0, (a.all ρ).2.1 == (b.all ρ).2.1, .nilFunc)
  | .not a => (0, !(a.all ρ).2.1, .nilFunc)
  | .and a b => (0, (a.all ρ).2.1 && (b.all ρ).2.1, .nilFunc)
  | .svar n => (0, false, .string (textOf (ρ n)))
  | .str s => (0, false, .string s)
  | .ite c a b => if (c.all ρ).2.1 then a.all ρ else b.all ρ
  | .byte s i => (byteAt (textOf (s.all ρ).2.2) (i.all ρ).1, false, .nilFunc)
  | .cat a b => (0, false, .string (textOf (a.all ρ).2.2 ++ textOf (b.all ρ).2.2))
  | .sub s a b => (0, false, .string ((textOf (s.all ρ).2.2).extract (a.all ρ).1.toNat (b.all ρ).1.toNat))
  | .chr a => (0, false, .string ⟨#[UInt8.ofNat (a.all ρ).1.toNat]⟩)
  | .dvar n => (0, false, ρ n)
  | .dcell e i j => (0, false, cellD ((elsD (e.all ρ).2.2).getD (i.all ρ).1.toNat .nilFunc) j)
  | .dlen e => ((elsD (e.all ρ).2.2).length, false, .nilFunc)
  | .dnil e => (0, isNilD (e.all ρ).2.2, .nilFunc)
  | .dleaf t e => (numOf (leafD t (e.all ρ).2.2), truthOf (leafD t (e.all ρ).2.2), leafD t (e.all ρ).2.2)
  | .dcut e a b => (0, false, listD (((elsD (e.all ρ).2.2).take (b.all ρ).1.toNat).drop (a.all ρ).1.toNat))
  | .dsnoc e r => (0, false, listD (elsD (e.all ρ).2.2 ++ [(r.all ρ).2.2]))
  | .dcat e f => (0, false, listD (elsD (e.all ρ).2.2 ++ elsD (f.all ρ).2.2))
  | .dsc t a => (0, false, match t with | .int k => .int k (a.all ρ).1 | .bool => .bool (a.all ρ).2.1 | .str => .string (textOf (a.all ρ).2.2))
  | .dtx nl a => (0, false, if (nl.all ρ).2.1 then .nilFunc else .string (textOf (a.all ρ).2.2))
  | .dli nl e => (0, false, if (nl.all ρ).2.1 then .nilFunc else listD (elsD (e.all ρ).2.2))
  | .dlst => (0, false, listD [])

def SE.num (ρ : Nat → Value) (e : SE) : Int := (e.all ρ).1
def SE.truth (ρ : Nat → Value) (e : SE) : Bool := (e.all ρ).2.1
def SE.text (ρ : Nat → Value) (e : SE) : ByteArray := textOf (e.all ρ).2.2
def SE.data (ρ : Nat → Value) (e : SE) : Value := (e.all ρ).2.2
@[simp] theorem textOf_string (s : ByteArray) : textOf (.string s) = s := rfl

def SE.val (ρ : Nat → Value) (e : SE) : STy → Value
  | .int k => .int k (e.num ρ)
  | .bool => .bool (e.truth ρ)
  | .str => .string (e.text ρ)

/-- A frame's own blocks get new contents; new ones come up to a number. -/
def upTab (lo hi : Nat) : List (Nat × Blk) → Tr Blk → Tr Blk
  | [], t => t
  | q :: l, t => upTab lo hi l (if Nat.ble lo q.1 && Nat.blt q.1 hi then t.set q.1 q.2 else t)
def Heap.up (H : Heap) (ds : List (Nat × Blk)) (nx : Nat) : Heap := { H with tab := upTab H.base (max H.next nx) ds H.tab, next := max H.next nx }
def OTree.eval (ρ : Nat → Value) (H : Heap) : OTree → Ex × St
  | .leaf e env ds nx => (e, { env := env, h := H.up ds nx })
  | .node c a b => if c.truth ρ then a.eval ρ H else b.eval ρ H

/-! ### Unknown lists -/
def bytesL (s : ByteArray) : List (List V) := s.data.toList.map fun b => [V.val (.int .u8 b.toNat)]
/-- The values that some data stand for. -/
def Sh.exp : Sh → (Nat → Value) → List V
  | .sc t, f => [.val (leafD t (f 0))]
  | .bytes, f => [.list (isNilD (f 0)) (bytesL (textOf (f 0))) .unk]
  | .li el, f => [.list (isNilD (f 0)) ((elsD (f 0)).map fun r => el.exp (cellD r)) .unk]
  | .nil, _ => []
  | .cons h t, f => h.exp f ++ t.exp (fun j => f (j + 1))
def Sh.width : Sh → Nat
  | .nil => 0
  | .cons h t => h.width + t.width
  | _ => 1
/-- The same, told by expressions. -/
def Sh.sym : Sh → (Nat → SE) → List V
  | .sc t, g => [.sym t (.dleaf t (g 0))]
  | .bytes, g => [.sli .bytes (.dnil (g 0)) (.dleaf .str (g 0)) .unk]
  | .li el, g => [.sli (.li el) (.dnil (g 0)) (g 0) .unk]
  | .nil, _ => []
  | .cons h t, g => h.sym g ++ t.sym (fun j => g (j + 1))
/-- The rows of an unknown list. -/
def rowsOf (ρ : Nat → Value) (k : Sh) (e : SE) : List (List V) :=
  match k with
  | .bytes => bytesL (e.text ρ)
  | .li el => (elsD (e.data ρ)).map fun r => el.exp (cellD r)
  | _ => []
def lenSE (k : Sh) (e : SE) : SE :=
  match k with
  | .bytes => .len e
  | _ => .dlen e
def subSE (k : Sh) (e a b : SE) : SE :=
  match k with
  | .bytes => .sub e a b
  | _ => .dcut e a b
def catSE (k : Sh) (e f : SE) : SE :=
  match k with
  | .bytes => .cat e f
  | _ => .dcat e f
def rowSym (k : Sh) (e i : SE) : List V :=
  match k with
  | .bytes => [.sym (.int .u8) (.byte e i)]
  | .li el => el.sym (fun j => .dcell e i j)
  | _ => []
def rowW (k : Sh) : Nat :=
  match k with
  | .li el => el.width
  | _ => 1
def isList (k : Sh) : Bool :=
  match k with
  | .bytes | .li _ => true
  | _ => false

/-- The tables without known loops. -/
def Tb.bare (tb : Tb) : Tb := { tb with loopT := fun _ _ => none }

/-- A Bool, told or unknown. -/
def condOf (tb : Tb) : V → Option Bool
  | .val (.bool t) => some t
  | .sym .bool e => some (e.truth tb.rho)
  | _ => none

/-- An unknown number in the place of a number: its value. -/
def told (tb : Tb) : V → V
  | .sym (.int k) e => .val (.int k (e.num tb.rho))
  | v => v

def toSE : V → Option (STy × SE)
  | .sym t e => some (t, e)
  | .val (.int k i) => some (.int k, .int k i)
  | .val (.bool b) => some (.bool, .bool b)
  | .val (.string s) => some (.str, .str s)
  | _ => none

def SE.mkAnd : SE → SE → SE
  | .bool true, b => b
  | .bool false, _ => .bool false
  | a, b => .and a b

def SE.mkNot : SE → SE
  | .not a => a
  | .bool b => .bool !b
  | a => .not a

def boolV : SE → V
  | .bool b => .val (.bool b)
  | e => .sym .bool e

def V.isSym : V → Bool
  | .sym .. => true
  | _ => false

def symArith : BinOp → Bool
  | .add | .sub | .mul | .and | .or | .xor | .andNot => true
  | _ => false
def symCmp : BinOp → Bool
  | .eql | .neq | .lss | .leq | .gtr | .geq => true
  | _ => false

def isStrT (tb : Tb) (T : TypeId) : Bool := match tb.desc T with | some .string => true | _ => false
def isBoolT (tb : Tb) (T : TypeId) : Bool := match tb.desc T with | some .bool => true | _ => false

/-- Where an expression stands among the operands of a sum or a product. -/
def SE.rank : SE → Nat
  | .ivar _ n => Nat.add (Nat.mul 2 n) 1
  | .int .. => 100000
  | .conv _ a => a.rank
  | .bin _ _ a b => Nat.add (Nat.add a.rank b.rank) 1000
  | _ => 50000

/-- Sums and products in one order. -/
def mkBin (op : BinOp) (k : IntKind) (a b : SE) : SE :=
  match op with
  | .add => if Nat.blt b.rank a.rank then .bin .add k b a else .bin .add k a b
  | .mul => if Nat.blt b.rank a.rank then .bin .mul k b a else .bin .mul k a b
  | op => .bin op k a b

/-- A binary operation on unknown scalars. -/
def symBin (tb : Tb) (op : BinOp) (T : TypeId) (t : STy) (a : SE) (t' : STy) (b : SE) : Option V :=
  match t, t' with
  | .int k, .int k' =>
    if symArith op && k == k' then some (.sym (.int k) (mkBin op k a b))
    else if symCmp op && k == k' then some (.sym .bool (.cmp op a b))
    else (match b with
      | .int _ n => if (op == .quo || op == .rem) && k == k' && n != 0 then some (.sym (.int k) (.bin op k a b))
        else if (op == .shl || op == .shr) && decide (0 ≤ n) then some (.sym (.int k) (.bin op k a b)) else none
      | b => if (op == .quo || op == .rem) && k == k' && b.num tb.rho != 0 then some (.sym (.int k) (.bin op k a b))
        else if (op == .shl || op == .shr) && decide (0 ≤ b.num tb.rho) then some (.sym (.int k) (.bin op k a b)) else none)
  | .str, .str => if op == .eql then some (.sym .bool (.eqs a b)) else if op == .neq then some (.sym .bool (.not (.eqs a b)))
      else if op == .add && decide ((a.text tb.rho).size + (b.text tb.rho).size ≤ 9223372036854775807) then some (.sym .str (.cat a b)) else none
  | .bool, .bool => if isBoolT tb T then (if op == .eql then some (.sym .bool (.eqb a b)) else if op == .neq then some (.sym .bool (.not (.eqb a b))) else none) else none
  | _, _ => none

/-- Is it an address (of memory that is told)? -/
def V.isAddr : V → Bool
  | .ptr .. | .cptr _ => true
  | _ => false

def isNilPtr : V → Bool
  | .val (.pointer none) => true
  | _ => false

def nilCmp (op : BinOp) (isNil : Bool) : Option V :=
  match op with
  | .eql => some (.bool isNil)
  | .neq => some (.bool !isNil)
  | _ => none

/-- An unknown list compared with nil. -/
def nilCmpS (op : BinOp) (nl : SE) : Option V :=
  match op with
  | .eql => some (boolV nl)
  | .neq => some (boolV nl.mkNot)
  | _ => none

def sliNil : V → V → Option SE
  | .sli _ nl _ _, .list true [] _ => some nl
  | .list true [] _, .sli _ nl _ _ => some nl
  | _, _ => none
def evalBin00 (P : Program) (tb : Tb) (op : BinOp) (T : TypeId) (x y : V) : Option V :=
  match x, y with
  | .val (.int k a), .val (.int k' b) => (intBin op k a k' b).map .val
  | .ptr .., .val (.pointer none) => (match tb.desc T with | some (.pointer _) => nilCmp op false | _ => none)
  | .val (.pointer none), .ptr .. => (match tb.desc T with | some (.pointer _) => nilCmp op false | _ => none)
  | .cptr _, .val (.pointer none) => (match tb.desc T with | some (.pointer _) => nilCmp op false | _ => none)
  | .val (.pointer none), .cptr _ => (match tb.desc T with | some (.pointer _) => nilCmp op false | _ => none)
  | .list n _ _, .list true [] _ => (match tb.desc T with | some (.slice _) => nilCmp op n | _ => none)
  | .list true [] _, .list n _ _ => (match tb.desc T with | some (.slice _) => nilCmp op n | _ => none)
  | .mslice .., .list true [] _ => (match tb.desc T with | some (.slice _) => nilCmp op false | _ => none)
  | .list true [] _, .mslice .. => (match tb.desc T with | some (.slice _) => nilCmp op false | _ => none)
  | .vslice .., .list true [] _ => (match tb.desc T with | some (.slice _) => nilCmp op false | _ => none)
  | .list true [] _, .vslice .. => (match tb.desc T with | some (.slice _) => nilCmp op false | _ => none)
  | .func .., .val .nilFunc => (match tb.desc T with | some (.func ..) => nilCmp op false | _ => none)
  | .val .nilFunc, .func .. => (match tb.desc T with | some (.func ..) => nilCmp op false | _ => none)
  | .iface .., .val .nilIface => (match tb.desc T with | some (.interface _) => nilCmp op false | _ => none)
  | .val .nilIface, .iface .. => (match tb.desc T with | some (.interface _) => nilCmp op false | _ => none)
  | .map _, .val (.map none) => (match tb.desc T with | some (.map ..) => nilCmp op false | _ => none)
  | .val (.map none), .map _ => (match tb.desc T with | some (.map ..) => nilCmp op false | _ => none)
  | x, y => do
    let a ← toValue x
    let b ← toValue y
    let r ← pureRun P (do eqGuard op T (.tmp 0) (.tmp 0) a b; binOp op T a b)
    ofCell r

def evalBin0 (P : Program) (tb : Tb) (op : BinOp) (T : TypeId) (x y : V) : Option V :=
  match sliNil x y with
  | some nl => (match tb.desc T with | some (.slice _) => nilCmpS op nl | _ => none)
  | none => evalBin00 P tb op T x y

/-- A part of an array or struct. -/
def part? (tb : Tb) (t : TypeId) (cs : List V) (off : Nat) : Option V := do
  let n ← tb.size t
  if ← tb.agg t then (if off + n ≤ cs.length then some (.agg ((cs.drop off).take n)) else none) else cs[off]?

/-- '==' of structs, field by field, as one Bool. -/
def eqFieldsV (tb : Tb) (eqv : TypeId → V → V → Option Bool) (xs ys : List V) : List Field → Option Bool
  | [] => some true
  | f :: fs => if f.name = "_" then eqFieldsV tb eqv xs ys fs else
    (part? tb f.type xs f.offset).bind fun a => (part? tb f.type ys f.offset).bind fun b => (eqv f.type a b).bind fun r => (eqFieldsV tb eqv xs ys fs).map fun s => r && s

def equalV (P : Program) (tb : Tb) : Nat → TypeId → V → V → Option Bool
  | 0, _, _, _ => none
  | n + 1, t, x, y => match tb.desc t, x, y with
    | some .bool, .val (.bool a), .val (.bool b) => some (a == b)
    | some (.int _), .val (.int k a), .val (.int k' b) => if k = k' then some (a == b) else none
    | some .string, .val (.string a), .val (.string b) => some (a == b)
    | some (.struct fs), .agg xs, .agg ys => if P.stoodInHeld t then none else eqFieldsV tb (equalV P tb n) xs ys fs.toList
    | _, _, _ => none

def equalAgg (P : Program) (tb : Tb) (T : TypeId) (x y : V) : Option Bool :=
  match x, y with
  | .agg _, .agg _ => if P.eqGuardType P.depth T then none else equalV P tb 9 T x y
  | _, _ => none

def evalBin1 (P : Program) (tb : Tb) (op : BinOp) (T : TypeId) (x y : V) : Option V :=
  match op with
  | .eql => (match equalAgg P tb T x y with | some r => some (.val (.bool r)) | none => evalBin0 P tb op T x y)
  | .neq => (match equalAgg P tb T x y with | some r => some (.val (.bool !r)) | none => evalBin0 P tb op T x y)
  | _ => evalBin0 P tb op T x y

/-- '==' of structs with unknown scalars in them. -/
def eqFieldsS (tb : Tb) (eqv : TypeId → V → V → Option SE) (xs ys : List V) : List Field → Option SE
  | [] => some (.bool true)
  | f :: fs => if f.name = "_" then eqFieldsS tb eqv xs ys fs else
    (part? tb f.type xs f.offset).bind fun a => (part? tb f.type ys f.offset).bind fun b => (eqv f.type a b).bind fun r => (eqFieldsS tb eqv xs ys fs).map fun s => SE.mkAnd r s

def equalS (P : Program) (tb : Tb) : Nat → TypeId → V → V → Option SE
  | 0, _, _, _ => none
  | n + 1, t, x, y => match tb.desc t with
    | some (.struct fs) => (match x, y with
      | .agg xs, .agg ys => if P.stoodInHeld t then none else eqFieldsS tb (equalS P tb n) xs ys fs.toList
      | _, _ => none)
    | some .bool => (match toSE x, toSE y with
      | some (.bool, .bool a), some (.bool, .bool b) => some (.bool (a == b))
      | some (.bool, a), some (.bool, b) => some (.eqb a b)
      | _, _ => none)
    | some (.int _) => (match toSE x, toSE y with
      | some (.int k, .int _ a), some (.int k', .int _ b) => if k = k' then some (.bool (a == b)) else none
      | some (.int k, a), some (.int k', b) => if k = k' then some (.cmp .eql a b) else none
      | _, _ => none)
    | some .string => (match toSE x, toSE y with
      | some (.str, .str a), some (.str, .str b) => some (.bool (a == b))
      | some (.str, a), some (.str, b) => some (.eqs a b)
      | _, _ => none)
    | _ => none

def equalAggS (P : Program) (tb : Tb) (T : TypeId) (x y : V) : Option SE :=
  match x, y with
  | .agg _, .agg _ => if P.eqGuardType P.depth T then none else equalS P tb 9 T x y
  | _, _ => none

def evalSymBin (P : Program) (tb : Tb) (op : BinOp) (T : TypeId) (x y : V) : Option V :=
  match op with
  | .eql => (match equalAggS P tb T x y with | some r => some (boolV r) | none => evalSymScalar tb op T x y)
  | .neq => (match equalAggS P tb T x y with | some r => some (boolV r.mkNot) | none => evalSymScalar tb op T x y)
  | _ => evalSymScalar tb op T x y
where
  evalSymScalar (tb : Tb) (op : BinOp) (T : TypeId) (x y : V) : Option V :=
    if x.isSym || y.isSym then (match toSE x, toSE y with
      | some (t, a), some (t', b) => symBin tb op T t a t' b
      | _, _ => none) else none

def evalBin (P : Program) (tb : Tb) (op : BinOp) (T : TypeId) (x y : V) : Option V :=
  match evalBin1 P tb op T x y with
  | some v => some v
  | none => evalSymBin P tb op T x y

def byteOf : List V → Option UInt8
  | [.val (.int .u8 n)] => some (UInt8.ofNat n.toNat)
  | _ => none

/-- A byte, told or unknown. -/
def cellSE : List V → Option SE
  | [.val (.int .u8 n)] => some (.int .u8 n)
  | [.sym (.int .u8) e] => some e
  | _ => none
/-- The text of some bytes. -/
def textSE : List SE → SE
  | [] => .str .empty
  | [x] => .chr x
  | x :: l => .cat (.chr x) (textSE l)
/-- A text of bytes, told or unknown. -/
def textOfCells (es : List (List V)) : Option V :=
  match es.mapM byteOf with
  | some l => some (V.val (.string ⟨l.toArray⟩))
  | none => (es.mapM cellSE).map fun xs => .sym .str (textSE xs)

def evalConv0 (P : Program) (tb : Tb) (src dst : TypeId) (x : V) : Option V :=
  match tb.desc src, tb.desc dst, x with
  | some _, some (.int k), .val (.int _ n) => some (.val (.int k (k.wrap n)))
  | some _, some .string, .val (.string s) => some (.val (.string s))
  | some _, some (.int k), .sym (.int _) e => some (.sym (.int k) (.conv k e))
  | some _, some .string, .sym .str e => some (.sym .str e)
  | some .string, some (.slice e), .val (.string s) => (match tb.desc e with
    | some (.int .u8) => if s.size ≤ 140737488355328 then some (.list false (s.data.toList.map fun b => [.val (.int .u8 b.toNat)]) .unk) else none
    | _ => none)
  | some (.slice e), some .string, .list _ es _ => (match tb.desc e with
    | some (.int .u8) => textOfCells es
    | _ => none)
  | some _, some _, x => do
    let a ← toValue x
    let r ← pureRun P (convert src dst a)
    ofCell r
  | _, _, _ => none

def isBytesT (tb : Tb) (T : TypeId) : Bool :=
  match tb.desc T with
  | some (.slice e) => (match tb.desc e with
    | some (.int .u8) => true
    | _ => false)
  | _ => false
/-- A text as bytes. -/
def bytesOfText (few : SE → Bool) (c : SE) : Option V := if few c then some (.sli .bytes (.bool false) c .unk) else none
def fewBytes (ρ : Nat → Value) (c : SE) : Bool := decide ((c.text ρ).size ≤ 140737488355328)
def evalConv (P : Program) (tb : Tb) (src dst : TypeId) (x : V) : Option V :=
  match x with
  | .sli .bytes _ c _ => if isBytesT tb src && isStrT tb dst then some (.sym .str c) else none
  | .sym .str c => if isStrT tb src && isBytesT tb dst then bytesOfText (fewBytes tb.rho) c else evalConv0 P tb src dst (.sym .str c)
  | x => evalConv0 P tb src dst x

def intOf? : V → Option Int
  | .val (.int _ n) => some n
  | _ => none

/-- An index that fits below n. -/
def idx (tb : Tb) (i : V) (n : Nat) : Option Nat :=
  match told tb i with
  | .val (.int _ i) => if 0 ≤ i ∧ i < n then some i.toNat else none
  | _ => none

def evalIndexAddr0 (tb : Tb) (T : TypeId) (x i : V) : Option V :=
  match tb.desc T with
  | some (.slice e) => (match x with
    | .list _ es _ => do
      let j ← idx tb i es.length
      let cs ← es[j]?
      if some cs.length = tb.size e then some (.cptr cs) else none
    | .mslice b off len _ => do
      let j ← idx tb i len
      let sz ← tb.size e
      some (.ptr b (off + j * sz))
    | .vslice b off len _ sz' => do
      let j ← idx tb i len
      let sz ← tb.size e
      if sz = sz' then some (.ptr b (off + j * sz)) else none
    | _ => none)
  | some (.array n e) => do
    let j ← idx tb i n
    let sz ← tb.size e
    match x with
    | .ptr b off => some (.ptr b (off + j * sz))
    | .cptr cs => some (.cptr (cs.drop (j * sz)))
    | _ => none
  | _ => none

def szIs (tb : Tb) (t : TypeId) (n : Nat) : Bool :=
  match tb.size t with
  | some m => Nat.beq n m
  | none => false
/-- A row of an unknown list. -/
def symIndexAddr (inb : SE → SE → Bool) (tb : Tb) (T : TypeId) (k : Sh) (e : SE) (i : V) : Option V :=
  match tb.desc T, toSE i with
  | some (.slice t), some (.int _, ie) => if isList k && (inb ie (lenSE k e) && szIs tb t (rowW k)) then some (.cptr (rowSym k e ie)) else none
  | _, _ => none
/-- Is a place within a list? -/
def within (ρ : Nat → Value) (i n : SE) : Bool := decide (0 ≤ i.num ρ) && decide (i.num ρ < n.num ρ)
def evalIndexAddr (tb : Tb) (T : TypeId) (x i : V) : Option V :=
  match x with
  | .sli k _ e _ => symIndexAddr (within tb.rho) tb T k e i
  | x => evalIndexAddr0 tb T x i

def evalIndex0 (tb : Tb) (T : TypeId) (x i : V) : Option V :=
  match tb.desc T, x with
  | some (.array n e), .agg cs => do
    let j ← idx tb i n
    let sz ← tb.size e
    part? tb e cs (j * sz)
  | some .string, .val (.string s) => do
    let j ← idx tb i s.size
    let b ← s.data[j]?
    some (.val (.int .u8 b.toNat))
  | _, _ => none

/-- A byte of an unknown text. -/
def symIndex (tb : Tb) (T : TypeId) (e : SE) (i : V) : Option V :=
  match tb.desc T, toSE i with
  | some .string, some (.int _, ie) => if decide (0 ≤ ie.num tb.rho) && decide (ie.num tb.rho < (e.text tb.rho).size) then some (.sym (.int .u8) (.byte e ie)) else none
  | _, _ => none
def evalIndex (tb : Tb) (T : TypeId) (x i : V) : Option V :=
  match x with
  | .sym .str e => symIndex tb T e i
  | x => evalIndex0 tb T x i

def fieldOf (tb : Tb) (T : TypeId) (f : Nat) : Option Field :=
  match tb.desc T with
  | some (.struct fs) => fs[f]?
  | _ => none

def evalField (tb : Tb) (T : TypeId) (x : V) (f : Nat) : Option V := do
  let fd ← fieldOf tb T f
  match x with
  | .agg cs => part? tb fd.type cs fd.offset
  | _ => none

def evalFieldAddr (tb : Tb) (T : TypeId) (x : V) (f : Nat) : Option V := do
  let fd ← fieldOf tb T f
  let sz ← tb.size fd.type
  if sz = 0 then none else
  match x with
  | .ptr b off => some (.ptr b (off + fd.offset))
  | .cptr cs => some (.cptr (cs.drop fd.offset))
  | _ => none

/-- The bounds of a cut. -/
def bound (tb : Tb) (v : Option V) (dflt most : Nat) : Option Nat :=
  match v with
  | none => some dflt
  | some v => (match told tb v with
    | .val (.int _ i) => if 0 ≤ i ∧ i ≤ most then some i.toNat else none
    | _ => none)

def cuts (tb : Tb) (lo hi mx : Option V) (n : Nat) : Option (Nat × Nat × Option Nat) :=
  match mx with
  | none => (match bound tb hi n n with
    | some h => (match bound tb lo 0 h with
      | some l => some (l, h, none)
      | none => none)
    | none => none)
  | some m => (match bound tb (some m) 0 n, hi with
    | some m, some hi => (match bound tb (some hi) 0 m with
      | some h => (match bound tb lo 0 h with
        | some l => some (l, h, some m)
        | none => none)
      | none => none)
    | _, _ => none)

/-- The same for a slice of length n with room for at least k. -/
def cutsV (tb : Tb) (lo hi mx : Option V) (n k : Nat) : Option (Nat × Nat × Option Nat) :=
  match mx with
  | none => (match bound tb hi n k with
    | some h => (match bound tb lo 0 h with
      | some l => some (l, h, none)
      | none => none)
    | none => none)
  | some m => cuts tb lo hi (some m) k

def cutTok (tok : Tok) (n l h : Nat) (mx : Option Nat) : Tok :=
  match mx with
  | some m => if m = h then .full else .unk
  | none => if h = n ∧ l < h then tok else .unk

def evalSlice0 (tb : Tb) (T : TypeId) (x : V) (lo hi mx : Option V) : Option V :=
  match tb.desc T, x with
  | some .string, .val (.string s) => (match cuts tb lo hi mx s.size with
    | some (l, h, none) => some (.val (.string (s.extract l h)))
    | _ => none)
  | some (.slice e), .list n es tok => (match tb.size e, cuts tb lo hi mx es.length with
    | some sz, some (l, h, m) => if n then some (.list true [] .full) else
      if es.all (fun c => c.length == sz) then some (.list false ((es.take h).drop l) (cutTok tok es.length l h m)) else none
    | _, _ => none)
  | some (.slice e), .mslice b off len cap => (match tb.size e, cuts tb lo hi mx len with
    | some sz, some (l, h, m) => some (.mslice b (if m.getD cap = l then off else off + l * sz) (h - l) (m.getD cap - l))
    | _, _ => none)
  | some (.slice e), .vslice b off len kc sz' => (match tb.size e, cutsV tb lo hi mx len kc with
    | some sz, some (l, h, m) => if sz ≠ sz' then none else (match m with
      | none => some (.vslice b (off + l * sz) (h - l) (kc - l) sz)
      | some m => some (if m = l then .list false [] .full else .mslice b (off + l * sz) (h - l) (m - l)))
    | _, _ => none)
  | _, _ => none

/-- A bound of a cut as an expression. -/
def boundSE (v : Option V) (d : SE) : Option SE :=
  match v with
  | none => some d
  | some v => (match toSE v with
    | some (.int _, e) => some e
    | _ => none)

/-- An unknown text cut. -/
def symSlice (tb : Tb) (T : TypeId) (e : SE) (lo hi mx : Option V) : Option V :=
  match tb.desc T, boundSE lo (.int .i64 0), boundSE hi (.len e) with
  | some .string, some a, some b => if mx.isNone && decide (cuts tb lo hi none (e.text tb.rho).size = some ((a.num tb.rho).toNat, (b.num tb.rho).toNat, none)) then some (.sym .str (.sub e a b)) else none
  | _, _, _ => none

def isZero : SE → Bool
  | .int _ i => i == 0
  | _ => false
def cutSE (k : Sh) (e a b : SE) : SE := if isZero a && b.beq (lenSE k e) then e else subSE k e a b
/-- An unknown list cut. -/
def listSlice (okc : SE → SE → SE → Bool) (tb : Tb) (T : TypeId) (k : Sh) (nl e : SE) (lo hi mx : Option V) : Option V :=
  match tb.desc T, boundSE lo (.int .i64 0), boundSE hi (lenSE k e) with
  | some (.slice t), some a, some b => if isList k && (okc a b (lenSE k e) && szIs tb t (rowW k)) then (match mx with
      | none => some (.sli k nl (cutSE k e a b) .unk)
      | some m => (match toSE m with
        | some (.int _, m) => if hi.isSome && m.beq b then some (.sli k nl (cutSE k e a b) .full) else none
        | _ => none)) else none
  | _, _, _ => none
def inOrder (ρ : Nat → Value) (a b n : SE) : Bool := decide (0 ≤ a.num ρ) && (decide (a.num ρ ≤ b.num ρ) && decide (b.num ρ ≤ n.num ρ))
def evalSlice (tb : Tb) (T : TypeId) (x : V) (lo hi mx : Option V) : Option V :=
  match x with
  | .sym .str e => symSlice tb T e lo hi mx
  | .sli k nl e _ => listSlice (inOrder tb.rho) tb T k nl e lo hi mx
  | x => evalSlice0 tb T x lo hi mx

/-- Parts laid into cells. -/
def fillV (place : Nat → Option (Nat × Nat)) (cells : List V) : List (Nat × V) → Option (List V)
  | [] => some cells
  | (i, v) :: rest =>
    match place i with
    | none => none
    | some (off, sz) =>
      if v.cells.length ≠ sz || off + sz > cells.length || !v.cells.all V.one then none
      else fillV place (cells.take off ++ v.cells ++ cells.drop (off + sz)) rest

def evalBuild (tb : Tb) (T : TypeId) (parts : List (Nat × V)) : Option V := do
  let z ← tb.zero T
  match tb.desc T with
  | some (.struct fs) => do
    let places ← fs.toList.mapM fun f => (tb.size f.type).map fun s => (f.offset, s)
    let cs ← fillV (fun i => places[i]?) z.cells parts
    some (.agg cs)
  | some (.array _ e) => do
    let sz ← tb.size e
    let cs ← fillV (fun i => some (i * sz, sz)) z.cells parts
    some (.agg cs)
  | _ => none

def chunk (sz : Nat) : Nat → List V → List (List V)
  | 0, _ => []
  | n + 1, l => l.take sz :: chunk sz n (l.drop sz)

def evalBuildSlice (tb : Tb) (T : TypeId) (len : Nat) (parts : List (Nat × V)) : Option V := do
  let e ← (match tb.desc T with | some (.slice e) => some e | _ => none)
  let sz ← tb.size e
  if sz = 0 || len * sz > 16777216 then none else
  let z ← tb.zero e
  if z.cells.length ≠ sz then none else
  let cs ← fillV (fun i => some (i * sz, sz)) ((List.replicate len z.cells).flatten) parts
  some (.list false (chunk sz len cs) .full)

def evalUn (P : Program) (op : UnOp) (x : V) : Option V :=
  match op, x with
  | .not, .val (.bool b) => some (.val (.bool !b))
  | .not, .sym .bool e => some (.sym .bool e.mkNot)
  | .neg, .sym (.int k) e => some (.sym (.int k) (.bin .sub k (.int k 0) e))
  | op, .val v => do
    if plain v then
      let r ← pureRun P (Op.unary op v)
      ofCell r
    else none
  | _, _ => none

def evalMax (P : Program) (isMax : Bool) (args : List V) : Option V :=
  match args with
  | [.val (.int k a), .val (.int _ b)] => some (.val (.int k (if isMax then (if b > a then b else a) else (if b < a then b else a))))
  | [x, y] => (match toSE x, toSE y with
    | some (.int k, a), some (.int _, b) => some (.sym (.int k) (.max isMax a b))
    | _, _ => none)
  | [x, y, z] => (match toSE x, toSE y, toSE z with
    | some (.int k, a), some (.int _, b), some (.int _, c) => some (.sym (.int k) (.max isMax (.max isMax a b) c))
    | _, _, _ => none)
  | _ => none

/-- len of what is no map. -/
def evalLen (tb : Tb) (T : TypeId) (x : V) : Option V :=
  match tb.desc T, x with
  | some .string, .val (.string s) => some (.int s.size)
  | some .string, .sym .str e => some (.sym (.int .i64) (.len e))
  | some (.array n _), _ => some (.int n)
  | some (.slice _), .list _ es _ => some (.int es.length)
  | some (.slice _), .mslice _ _ len _ => some (.int len)
  | some (.slice _), .vslice _ _ len _ _ => some (.int len)
  | some (.slice _), .sli k _ e _ => if isList k then some (.sym (.int .i64) (lenSE k e)) else none
  | some (.map ..), .val (.map none) => some (.int 0)
  | _, _ => none

/-- The operations that ask no memory of the abstract heap. -/
def evalPure (P : Program) (tb : Tb) (env : Env) : Op → Option V
  | .move x | .assign x => some (ev tb env x)
  | .pick c a b => (match ev tb env c, ev tb env a, ev tb env b with
    | .val (.bool t), .val (.bool x), .val (.bool y) => some (.val (.bool (bif t then x else y)))
    | .val (.bool t), x, y => some (if t then x else y)
    | .sym .bool e, x, y => some (if e.truth tb.rho then x else y)
    | _, _, _ => none)
  | .build t parts => evalBuild tb t (parts.toList.map fun p => (p.1, ev tb env p.2))
  | .buildSlice t len parts => evalBuildSlice tb t len (parts.toList.map fun p => (p.1, ev tb env p.2))
  | .nilCheck x => (match ev tb env x with
    | .ptr b o => some (.ptr b o)
    | .cptr cs => some (.cptr cs)
    | _ => none)
  | .binOp op t x y _ => evalBin P tb op t (ev tb env x) (ev tb env y)
  | .unOp op _ x => evalUn P op (ev tb env x)
  | .convert s d x => evalConv P tb s d (ev tb env x)
  | .makeInterface t x => (match tb.desc t with
    | some (.interface _) => none
    | some _ => some (.iface t (ev tb env x))
    | none => none)
  | .makeFunc fn first captured => some (.func fn (first.toList.map (ev tb env)) (captured.toList.map (ev tb env)))
  | .slice t x lo hi mx => evalSlice tb t (ev tb env x) (lo.map (ev tb env)) (hi.map (ev tb env)) (mx.map (ev tb env))
  | .fieldAddr t x f => evalFieldAddr tb t (ev tb env x) f
  | .field t x f => evalField tb t (ev tb env x) f
  | .indexAddr t x i => evalIndexAddr tb t (ev tb env x) (ev tb env i)
  | .index t x i => evalIndex tb t (ev tb env x) (ev tb env i)
  | .extract x i => (match ev tb env x with
    | .tuple vs => vs[i]?
    | _ => none)
  | .call { callee := .builtin .max, args, .. } => evalMax P true (args.toList.map (ev tb env))
  | .call { callee := .builtin .min, args, .. } => evalMax P false (args.toList.map (ev tb env))
  | _ => none

/-- Is it one of these? -/
def isPure : Op → Bool
  | .move _ | .assign _ | .pick .. | .build .. | .buildSlice .. | .nilCheck _ | .binOp .. | .unOp .. | .convert .. | .makeInterface .. | .makeFunc .. | .slice .. | .fieldAddr .. | .field .. | .indexAddr .. | .index .. | .extract .. => true
  | .call { callee := .builtin .max, .. } | .call { callee := .builtin .min, .. } => true
  | _ => false

/-! ### Operations on memory -/
def loadCellsV (H : Heap) (x : V) : Option (List V) :=
  match x with
  | .ptr b off => match H.get b with
    | some (.cells cs) => some (cs.drop off)
    | _ => none
  | .cptr cs => some cs
  | _ => none

def evalLoad (tb : Tb) (H : Heap) (T : TypeId) (x : V) : Option V := do
  let n ← tb.size T
  let g ← tb.agg T
  let cs ← loadCellsV H x
  if g then (if n ≤ cs.length then some (.agg (cs.take n)) else none) else cs.head?

def evalStore (tb : Tb) (H : Heap) (T : TypeId) (x v : V) : Option Heap := do
  let n ← tb.size T
  if v.cells.length ≠ n || !v.cells.all V.one then none else
  match x with
  | .ptr b off => match H.get b with
    | some (.cells cs) => if off + n ≤ cs.length then some (H.put b (.cells (cs.take off ++ v.cells ++ cs.drop (off + n)))) else none
    | _ => none
  | _ => none

def newBox (H : Heap) (cs : List V) : Option (V × Heap) :=
  if cs.all V.one then (H.new (.cells cs)).map fun H' => (.ptr H.next 0, H') else none

def keyOf (tb : Tb) (T : TypeId) (k : V) : Option Value :=
  match tb.desc T, told tb k with
  | some (.int k), .val (.int k' n) => if k = k' then some (.int k n) else none
  | some .string, .val (.string s) => some (.string s)
  | some .bool, .val (.bool b) => some (.bool b)
  | _, _ => none

def sameKey : Value → Value → Option Bool
  | .int k a, .int k' b => if k = k' then some (a == b) else none
  | .string a, .string b => some (a == b)
  | .bool a, .bool b => some (a == b)
  | _, _ => none

/-- The entry with a key: its place and value. -/
def findIx (k : Value) : List (Value × V × Nat) → Nat → Option (Option (Nat × V))
  | [], _ => some none
  | e :: es, i => match sameKey k e.1 with
    | some true => some (some (i, e.2.1))
    | some false => findIx k es (i + 1)
    | none => none

def mapOf (H : Heap) (x : V) : Option (List (Value × V × Nat)) :=
  match x with
  | .val (.map none) => some []
  | .map m => (match H.get m with
    | some (.map es _) => some es
    | _ => none)
  | _ => none

def evalLookup (tb : Tb) (H : Heap) (T : TypeId) (x k : V) (ok : Bool) : Option V :=
  match tb.desc T with
  | some (.map kt et) => (match keyOf tb kt k, mapOf H x with
    | some key, some es => (match findIx key es 0 with
      | some (some (_, v)) => some (if ok then .tuple [v, .bool true] else v)
      | some none => (match tb.zero et with
        | some z => some (if ok then .tuple [z, .bool false] else z)
        | none => none)
      | none => none)
    | _, _ => none)
  | _ => none

def evalMapUpdate (tb : Tb) (H : Heap) (T : TypeId) (x k v : V) : Option Heap :=
  match tb.desc T, x with
  | some (.map kt _), .map m => (match keyOf tb kt k, H.get m with
    | some key, some (.map es clock) => (match findIx key es 0 with
      | some (some (i, _)) => some (H.put m (.map (es.modify i fun e => (key, v, e.2.2)) clock))
      | some none => some (H.put m (.map (es ++ [(key, v, clock)]) (clock + 1)))
      | none => none)
    | _, _ => none)
  | _, _ => none

def evalDelete (tb : Tb) (H : Heap) (T : TypeId) (x k : V) : Option Heap :=
  match tb.desc T with
  | some (.map kt _) => (match keyOf tb kt k, x with
    | some _, .val (.map none) => some H
    | some key, .map m => (match H.get m with
      | some (.map es clock) => (match findIx key es 0 with
        | some (some (i, _)) => some (H.put m (.map (es.eraseIdx i) clock))
        | some none => some (H.put m (.map es clock))
        | none => none)
      | _ => none)
    | _, _ => none)
  | _ => none

/-- What an append adds. -/
def addedOf (tb : Tb) (H : Heap) (e : TypeId) (sz : Nat) (T2 : TypeId) (x : V) : Option (List (List V)) :=
  match tb.desc T2, x with
  | some (.int _), .val (.int _ n) => do
    let z ← tb.zero e
    if 0 ≤ n ∧ n ≤ 140737488355328 ∧ z.cells.length = sz then some (List.replicate n.toNat z.cells) else none
  | some .string, .val (.string s) => if sz = 1 then some (s.data.toList.map fun b => [.val (.int .u8 b.toNat)]) else none
  | some (.slice _), .list _ es _ => if es.all (fun c => c.length == sz) then some es else none
  | some (.slice _), .mslice b off n _ => (match H.get b with
    | some (.cells cs) => if off + n * sz ≤ cs.length then some (chunk sz n ((cs.drop off).take (n * sz))) else none
    | _ => none)
  | some (.slice _), .vslice b off n _ _ => if n = 0 then some [] else (match H.get b with
    | some (.cells cs) => if off + n * sz ≤ cs.length then some (chunk sz n ((cs.drop off).take (n * sz))) else none
    | _ => none)
  | _, _ => none

/-- The elements of a slice over a box get n more, in place or in a new box. -/
def appendBox (H : Heap) (cs : List V) (b off len sz : Nat) (news : List (List V)) (place : V) (kc : Nat) (dead : Bool) : Option (V × Heap) :=
  if !(off + len * sz ≤ cs.length && news.flatten.all V.one) then none else
  if len + news.length ≤ kc then (if off + (len + news.length) * sz ≤ cs.length then some (place, H.put b (.cells (cs.take (off + len * sz) ++ news.flatten ++ cs.drop (off + (len + news.length) * sz)))) else none)
  else ((if dead then H.put b (.tail false) else H).new (.cells ((cs.drop off).take (len * sz) ++ news.flatten))).map fun H' => (.vslice H.next 0 (len + news.length) (len + news.length) sz, H')

def isByteT (tb : Tb) (e : TypeId) : Bool := match tb.desc e with | some (.int .u8) => true | _ => false

/-- A list gets more. -/
def appendList (lin : Bool) (tb : Tb) (H : Heap) (e : TypeId) (sz : Nat) (nil : Bool) (es : List (List V)) (tok : Tok) (news : List (List V)) : Option (V × Heap) :=
  if !es.all (fun c => c.length == sz) then none else
  if news.isEmpty then some (.list nil es tok, H) else
  match (if nil then Tok.full else tok) with
  | .full => if lin || isByteT tb e then (H.new (.tail true)).map (fun H' => (.list false (es ++ news) (.own H.next sz), H'))
    else if (es ++ news).flatten.all V.one then (H.new (.cells (es ++ news).flatten)).map (fun H' => (.vslice H.next 0 (es.length + news.length) (es.length + news.length) sz, H')) else none
  | .own b s => (match H.get b with
    | some (.tail true) => if s = sz then ((H.put b (.tail false)).new (.tail true)).map fun H' => (.list false (es ++ news) (.own H.next sz), H') else none
    | _ => none)
  | .unk => none

def appendTo (tb : Tb) (H : Heap) (e : TypeId) (sz by_ : Nat) (s : V) (news : List (List V)) : Option (V × Heap) :=
  match s with
  | .list nil es tok => if (es.length + news.length) * by_ > 140737488355328 then none else appendList false tb H e sz nil es tok news
  | .mslice b off len cap => if (len + news.length) * by_ > 140737488355328 then none else if news.isEmpty then some (s, H) else (match H.get b with
    | some (.cells cs) => appendBox H cs b off len sz news (.mslice b off (len + news.length) cap) cap false
    | _ => none)
  | .vslice b off len kc sz' => if (len + news.length) * by_ > 140737488355328 then none else if news.isEmpty then some (s, H) else (match H.get b with
    | some (.cells cs) => if sz' = sz then appendBox H cs b off len sz news (.vslice b off (len + news.length) kc sz) kc true else none
    | _ => none)
  | _ => none

def okT (ok : IntKind → SE → Bool) (t : STy) (a : SE) : Bool :=
  match t with
  | .int k => ok k a
  | _ => true
/-- A cell as data. -/
def cellDat (ok : IntKind → SE → Bool) (sh : Sh) (v : V) : Option SE :=
  match sh with
  | .sc t => (match toSE v with
    | some (t', a) => if t' == t && okT ok t a then some (.dsc t a) else none
    | none => none)
  | .bytes => (match v with
    | .sli .bytes nl e _ => some (.dtx nl e)
    | .list nil [] _ => some (.dtx (.bool nil) (.str .empty))
    | _ => none)
  | .li el => (match v with
    | .sli (.li el') nl e _ => if el.beq el' then some (.dli nl e) else none
    | .list nil [] _ => some (.dli (.bool nil) .dlst)
    | _ => none)
  | _ => none
def rowDat (ok : IntKind → SE → Bool) : Sh → List V → SE → Option SE
  | .nil, [], acc => some acc
  | .cons h t, v :: vs, acc => (cellDat ok h v).bind fun c => rowDat ok t vs (.dsnoc acc c)
  | _, _, _ => none
def catBytes (e : SE) : List SE → SE
  | [] => e
  | x :: bs => (match e with
    | .str s => if Nat.beq s.size 0 then textSE (x :: bs) else .cat e (textSE (x :: bs))
    | e => .cat e (textSE (x :: bs)))
def byteDat (ok : IntKind → SE → Bool) (c : List V) : Option SE := (cellSE c).bind fun b => if ok .u8 b then some b else none
def snocRows (ok : IntKind → SE → Bool) (el : Sh) : List (List V) → SE → Option SE
  | [], e => some e
  | c :: es, e => (rowDat ok el c .dlst).bind fun r => snocRows ok el es (.dsnoc e r)
/-- A list with some rows more. -/
def catRows (ok : IntKind → SE → Bool) (k : Sh) (e : SE) (es : List (List V)) : Option SE :=
  match k with
  | .bytes => (es.mapM (byteDat ok)).map (catBytes e)
  | .li el => snocRows ok el es e
  | _ => none
def emptyC (k : Sh) : SE :=
  match k with
  | .bytes => .str .empty
  | _ => .dlst
def toSli (ok : IntKind → SE → Bool) (k : Sh) (v : V) : Option (SE × SE × Tok) :=
  match v with
  | .sli k' nl e tok => if k.beq k' then some (nl, e, tok) else none
  | .list true [] _ => some (.bool true, emptyC k, .full)
  | .list false es tok => (catRows ok k (emptyC k) es).map fun e => (.bool false, e, tok)
  | _ => none
def kOf (s x : V) : Option Sh :=
  match s, x with
  | .sli k _ _ _, _ => some k
  | .list .., .sli k _ _ _ => some k
  | .list .., .sym .str _ => some .bytes
  | _, _ => none
/-- What is joined to a list, and how much that is, where that is unknown. -/
def addS (ok : IntKind → SE → Bool) (tb : Tb) (H : Heap) (t : TypeId) (sz : Nat) (T2 : TypeId) (k : Sh) (e : SE) (x : V) : Option (SE × Option SE × SE) :=
  match x with
  | .sli k' _ f _ => (match tb.desc T2 with
    | some (.slice _) => if k.beq k' then some (catSE k e f, some (lenSE k f), lenSE k f) else none
    | _ => none)
  | .sym .str f => (match k, tb.desc T2 with
    | .bytes, some .string => some (.cat e f, some (.len f), .len f)
    | _, _ => none)
  | x => (addedOf tb H t sz T2 x).bind fun news => if news.isEmpty then none else (catRows ok k e news).map fun e' => (e', none, .int .i64 (Int.ofNat news.length))
/-- The room behind a list gets another holder. -/
def growTok (H : Heap) (sz : Nat) : Tok → Option Heap
  | .full => H.new (.tail true)
  | .own b s => (match H.get b with
    | some (.tail true) => if Nat.beq s sz then (H.put b (.tail false)).new (.tail true) else none
    | _ => none)
  | .unk => none
/-- append with an unknown list: what comes of it if there is something to add; and how much there is, where that is unknown. -/
def appendS (ok : IntKind → SE → Bool) (small : SE → SE → Nat → Bool) (tb : Tb) (H : Heap) (T1 T2 : TypeId) (s x : V) : Option (Option SE × V × Heap) :=
  match tb.desc T1 with
  | some (.slice t) => do
    let sz ← tb.size t
    let by_ ← tb.bytes t
    let z ← tb.zero t
    let k ← kOf s x
    if sz = 0 || by_ = 0 || z.cells.length ≠ sz || !isList k || !Nat.beq (rowW k) sz then none else
    let r ← toSli ok k s
    let a ← addS ok tb H t sz T2 k r.2.1 x
    if !small (lenSE k r.2.1) a.2.2 by_ then none else
    let H' ← growTok H sz r.2.2
    some (a.2.1, .sli k (.bool false) a.1 (.own H.next sz), H')
  | _ => none
def fitsK (ρ : Nat → Value) (k : IntKind) (a : SE) : Bool := decide (k.wrap (a.num ρ) = a.num ρ)
def smallL (ρ : Nat → Value) (n m : SE) (by_ : Nat) : Bool := decide ((n.num ρ + m.num ρ) * (by_ : Int) ≤ 140737488355328)
def evalAppendS (tb : Tb) (H : Heap) (T1 T2 : TypeId) (s x : V) : Option (V × Heap) :=
  (appendS (fitsK tb.rho) (smallL tb.rho) tb H T1 T2 s x).map fun r => match r.1 with
    | some n => if (SE.cmp .eql n (.int .i64 0)).truth tb.rho then (s, H) else r.2
    | none => r.2

def evalAppend0 (tb : Tb) (H : Heap) (T1 T2 : TypeId) (s x : V) : Option (V × Heap) :=
  match tb.desc T1 with
  | some (.slice e) => do
    let sz ← tb.size e
    let by_ ← tb.bytes e
    let z ← tb.zero e
    let news ← addedOf tb H e sz T2 x
    if sz = 0 || by_ = 0 || z.cells.length ≠ sz then none else appendTo tb H e sz by_ s news
  | _ => none

def evalAppend (tb : Tb) (H : Heap) (T1 T2 : TypeId) (s x : V) : Option (V × Heap) :=
  match kOf s x with
  | some _ => evalAppendS tb H T1 T2 s (told tb x)
  | none => evalAppend0 tb H T1 T2 s (told tb x)

def evalMakeSlice (tb : Tb) (H : Heap) (T : TypeId) (l c : V) : Option (V × Heap) :=
  match tb.desc T, l, c with
  | some (.slice e), .val (.int .i64 l), .val (.int .i64 c) => do
    let sz ← tb.size e
    let by_ ← tb.bytes e
    let z ← tb.zero e
    if sz = 0 || by_ = 0 || z.cells.length ≠ sz || !(decide (0 ≤ l) && decide (l ≤ c) && decide (c * by_ ≤ 140737488355328)) then none else
    if l = c ∧ 0 < l then (newBox H (List.replicate l.toNat z.cells).flatten).map fun r => (.mslice H.next 0 l.toNat l.toNat, r.2)
    else if l = c then some (.list false (List.replicate l.toNat z.cells) .full, H)
    else if isByteT tb e then (H.new (.tail true)).map (fun H' => (.list false (List.replicate l.toNat z.cells) (.own H.next sz), H'))
    else (newBox H (List.replicate c.toNat z.cells).flatten).map (fun r => (.mslice H.next 0 l.toNat c.toNat, r.2))
  | _, _, _ => none

def evalNext (H : Heap) (x : V) (isString : Bool) : Option (List (V × Heap)) :=
  match x with
  | .ptr r 0 => (match H.get r, isString with
    | some (.siter s pos), true =>
      if pos < s.size then
        let d := Utf8.decode s pos
        some [(.tuple [.bool true, .int pos, .val (.int .i32 d.1)], H.put r (.siter s (pos + d.2)))]
      else some [(.tuple [.bool false], H)]
    | some (.miter none _ _ _), false => some [(.tuple [.bool false], H)]
    | some (.miter (some m) since seen last), false => (match H.get m with
      | some (.map es clock) =>
        if !seen.isEmpty && (!es.isEmpty && es.all fun e => decide (last ≤ e.2.2)) then none else
        some ((if (es.filter fun e => !seen.contains e.2.2 && decide (e.2.2 < since)).isEmpty then [(.tuple [.bool false], H.put r (.tail false))] else []) ++
          (es.filter fun e => !seen.contains e.2.2).map fun e => (.tuple [.bool true, .val e.1, e.2.1], H.put r (.miter (some m) since (seen ++ [e.2.2]) clock)))
      | _ => none)
    | _, _ => none)
  | _ => none

def evalRange (tb : Tb) (H : Heap) (T : TypeId) (x : V) : Option (V × Heap) := do
  let it ← (match tb.desc T, x with
    | some .string, .val (.string s) => some (Blk.siter s 0)
    | some (.map ..), .val (.map none) => some (.miter none 0 [] 0)
    | some (.map ..), .map m => (match H.get m with
      | some (.map _ clock) => some (.miter (some m) clock [] clock)
      | _ => none)
    | _, _ => none)
  (H.new it).map fun H' => (.ptr H.next 0, H')

/-- The entry that an iterator stands at. -/
def evalEntry (H : Heap) (x : V) : Option V :=
  match x with
  | .ptr r 0 => (match H.get r with
    | some (.miter (some m) since seen stepped) => (match seen.getLast?, H.get m with
      | some stamp, some (.map es clock) => if clock = stepped then (match es.find? fun e => e.2.2 == stamp with
        | some e => some (.tuple [.val e.1, e.2.1])
        | none => none) else none
      | _, _ => none)
    | _ => none)
  | _ => none

/-- An entry for an assignment with an operation: what it holds, and its stamp. -/
def evalMapEntry (tb : Tb) (H : Heap) (T : TypeId) (x k : V) : Option (V × Heap) :=
  match tb.desc T, x with
  | some (.map kt et), .map m => (match keyOf tb kt k, H.get m with
    | some key, some (.map es clock) => (match findIx key es 0 with
      | some (some (i, v)) => (match es[i]? with
        | some e => some (.tuple [v, .int e.2.2], H.put m (.map (es.modify i fun e => (key, e.2.1, e.2.2)) clock))
        | none => none)
      | some none => (match tb.zero et with
        | some z => some (.tuple [z, .int clock], H.put m (.map (es ++ [(key, z, clock)]) (clock + 1)))
        | none => none)
      | none => none)
    | _, _ => none)
  | _, _ => none

def evalEntryStore (H : Heap) (x s v : V) : Option Heap :=
  match x, s with
  | .map m, .val (.int .i64 born) => (match H.get m with
    | some (.map es clock) => (match es.findIdx? fun e => (e.2.2 : Int) == born with
      | some i => some (H.put m (.map (es.modify i fun e => (e.1, v, e.2.2)) clock))
      | none => none)
    | _ => none)
  | _, _ => none

/-- copy of a slice into a box. -/
def copyBox (H : Heap) (sz : Nat) (xs : List (List V)) (b off len : Nat) : Option (V × Heap) :=
  match H.get b with
  | some (.cells cs) => if off + min xs.length len * sz ≤ cs.length then some (.int (min xs.length len : Nat), H.put b (.cells (cs.take off ++ (xs.take (min xs.length len)).flatten ++ cs.drop (off + min xs.length len * sz)))) else none
  | _ => none
def copyTo (H : Heap) (sz : Nat) (xs : List (List V)) (d : V) : Option (V × Heap) :=
  match d with
  | .list _ [] _ => some (.int 0, H)
  | .mslice b off len _ => copyBox H sz xs b off len
  | .vslice b off len _ _ => if len = 0 then some (.int 0, H) else copyBox H sz xs b off len
  | _ => none
def evalCopy (tb : Tb) (H : Heap) (T1 T2 : TypeId) (d x : V) : Option (V × Heap) :=
  match tb.desc T1, tb.desc T2 with
  | some (.slice e), some (.slice _) => (tb.size e).bind fun sz => (tb.bytes e).bind fun by_ => (tb.zero e).bind fun z =>
    if z.cells.length = sz then (addedOf tb H e sz T2 x).bind fun xs => copyTo H sz xs d else none
  | _, _ => none

/-- clear of a slice over a box. -/
def evalClear (tb : Tb) (H : Heap) (T : TypeId) (x : V) : Option Heap :=
  match tb.desc T with
  | some (.slice e) => do
    let sz ← tb.size e
    let z ← tb.zero e
    let go (b off len : Nat) : Option Heap := match H.get b with
      | some (.cells cs) => if z.cells.length = sz && off + len * sz ≤ cs.length then some (H.put b (.cells (cs.take off ++ (List.replicate len z.cells).flatten ++ cs.drop (off + len * sz)))) else none
      | _ => none
    match x with
    | .list _ [] _ => some H
    | .mslice b off len _ => if len = 0 then some H else go b off len
    | .vslice b off len _ _ => if len = 0 then some H else go b off len
    | _ => none
  | _ => none

def evalCap (tb : Tb) (T : TypeId) (x : V) : Option V :=
  match tb.desc T, x with
  | some (.slice _), .list true [] _ => some (.int 0)
  | some (.slice _), .list false es .full => some (.int es.length)
  | some (.slice _), .mslice _ _ _ cap => some (.int cap)
  | _, _ => none

/-- The operations on memory, but for calls of functions. -/
def evalMem (tb : Tb) (env : Env) (H : Heap) : Op → Option (List (V × Heap))
  | .alloc t => do
    let z ← tb.zero t
    (newBox H z.cells).map ([·])
  | .box _ x => (newBox H (ev tb env x).cells).map ([·])
  | .load t a => (evalLoad tb H t (ev tb env a)).map fun v => [(v, H)]
  | .store t a x => (evalStore tb H t (ev tb env a) (ev tb env x)).map fun H' => [(V.undef, H')]
  | .makeMap _ none => (H.new (.map [] 0)).map fun H' => [(.map H.next, H')]
  | .makeSlice t l c => (evalMakeSlice tb H t (ev tb env l) (ev tb env c)).map ([·])
  | .lookup t x k ok => (evalLookup tb H t (ev tb env x) (ev tb env k) ok).map fun v => [(v, H)]
  | .mapUpdate t x k v => (evalMapUpdate tb H t (ev tb env x) (ev tb env k) (ev tb env v)).map fun H' => [(V.undef, H')]
  | .entry x => (evalEntry H (ev tb env x)).map fun v => [(v, H)]
  | .mapEntry t x k => (evalMapEntry tb H t (ev tb env x) (ev tb env k)).map ([·])
  | .entryStore _ x s v => (evalEntryStore H (ev tb env x) (ev tb env s) (ev tb env v)).map fun H' => [(V.undef, H')]
  | .range t x => (evalRange tb H t (ev tb env x)).map ([·])
  | .next x s => evalNext H (ev tb env x) s
  | .call { callee := .builtin .len, args, argTypes } => (match args.toList, argTypes.toList with
    | [x], [t] => (match ev tb env x with
      | .map m => (match tb.desc t, H.get m with
        | some (.map ..), some (.map es _) => some [(V.int es.length, H)]
        | _, _ => none)
      | v => (evalLen tb t v).map fun r => [(r, H)])
    | _, _ => none)
  | .call { callee := .builtin .append, args, argTypes } => (match args.toList, argTypes.toList with
    | [s, x], [t1, t2] => (evalAppend tb H t1 t2 (ev tb env s) (ev tb env x)).map ([·])
    | _, _ => none)
  | .call { callee := .builtin .delete, args, argTypes } => (match args.toList, argTypes.toList with
    | x :: k :: _, t :: _ => (evalDelete tb H t (ev tb env x) (ev tb env k)).map fun H' => [(V.tuple [], H')]
    | _, _ => none)
  | .call { callee := .builtin .copy, args, argTypes } => (match args.toList, argTypes.toList with
    | [d, x], [t1, t2] => (evalCopy tb H t1 t2 (ev tb env d) (ev tb env x)).map ([·])
    | _, _ => none)
  | .call { callee := .builtin .clear, args, argTypes } => (match args.toList, argTypes.toList with
    | [x], [t] => (evalClear tb H t (ev tb env x)).map fun H' => [(V.tuple [], H')]
    | _, _ => none)
  | .call { callee := .builtin .cap, args, argTypes } => (match args.toList, argTypes.toList with
    | [x], [t] => (evalCap tb t (ev tb env x)).map fun v => [(v, H)]
    | _, _ => none)
  | _ => none

/-! ### Calls, regions, code -/
abbrev CallFn := Nat → List V → Heap → Option (List (V × Heap))

def bindL {α β : Type} : List α → (α → Option (List β)) → Option (List β)
  | [], _ => some []
  | x :: l, f => (f x).bind fun a => (bindL l f).map fun b => a ++ b

/-- Behind a call: what it touched of the caller's elders is remembered. -/
def back (H H' : Heap) : Heap :=
  { H' with base := H.base, low := match H'.low with
      | some l => if l < H.base then some (match H.low with | some m => min m l | none => l) else H.low
      | none => H.low }

/-- The heap before a law runs. -/
def H0 : Heap := ⟨.leaf, 0, 0, none⟩

def plainV : V → Bool
  | .val _ | .sym .. => true
  | _ => false

/-- Does a function give one scalar? -/
def scalarFn (tb : Tb) (f : Nat) : Bool :=
  match tb.func f with
  | some fn => (match fn.resultTypes.toList with
    | [t] => (match tb.desc t with
      | some .bool | some (.int _) | some .string => true
      | _ => false)
    | _ => false)
  | none => false

/-- A function without arguments that gives a scalar runs in a heap of its own. -/
def boxed (cl : CallFn) (tb : Tb) : CallFn := fun f args H =>
  if args.isEmpty && scalarFn tb f then (cl f [] H0).bind fun L => if L.all fun r => plainV r.1 then some (L.map fun r => (r.1, H)) else none
  else cl f args H

/-- Functions of Go's library without a body. -/
def extTab (name : String) (as : List V) : Option V :=
  match as with
  | [.val (.string s), .val (.int .u8 c)] =>
    if name == "internal/bytealg.CountString" then some (.val (.int .i64 (Lib.countByte s.data.toList c.toNat.toUInt8)))
    else if name == "internal/bytealg.IndexByteString" then some (.val (.int .i64 (Lib.indexByte s.data.toList c.toNat.toUInt8)))
    else none
  | _ => none

def evalExt (tb : Tb) (f : Nat) (as : List V) : Option V :=
  match tb.func f with
  | some fn => if fn.body.isNone && fn.origin == "" then extTab fn.name as else none
  | none => none

def callOne (cl : CallFn) (tb : Tb) : CallFn := fun f args H =>
  match evalExt tb f args with
  | some v => some [(v, H)]
  | none => boxed cl tb f args H

/-- From this number on a call is a round of a loop over a function: of the loop whose record lies in that block. -/
def roundBase : Nat := 4294967296

/-- A call of a function: its outcomes, and whether it touched what was there. -/
def evalCall (cl : CallFn) (tb : Tb) (env : Env) (H : Heap) (c : Call) : Option (List (V × Heap)) :=
  match c.callee with
  | .value f => (match ev tb env f with
    | .func (.func g) first captured => if Nat.blt g roundBase then callOne cl tb g (first ++ c.args.toList.map (ev tb env) ++ captured) { H with base := H.next, low := none } else none
    | .yield k => cl (Nat.add roundBase k) (c.args.toList.map (ev tb env)) { H with base := H.next, low := none }
    | _ => none)
  | _ => none

/-- Does an operation leave what was there alone? -/
def softOp (tb : Tb) (env : Env) : Op → Bool
  | .store .. | .mapUpdate .. | .next .. | .mapEntry .. | .entryStore .. => false
  | .call { callee := .builtin .delete, .. } => false
  | .call { callee := .builtin .append, args, .. } => (match args.toList with
    | [s, _] => (match ev tb env s with
      | .list _ _ (.own _ _) | .sli _ _ _ (.own _ _) | .mslice .. | .vslice .. => false
      | _ => true)
    | _ => false)
  | .call { callee := .builtin .copy, .. } | .call { callee := .builtin .clear, .. } => false
  | _ => true

/-- One operation: its outcomes: the value, the heap, whether it wrote to what was there before it. -/
def evalOp (cl : CallFn) (P : Program) (tb : Tb) (env : Env) (H : Heap) (o : Op) : Option (List (V × Heap × Bool)) :=
  if isPure o then (evalPure P tb env o).map fun v => [(v, H, false)] else
  match o with
  | .call { callee := .value f, args, argTypes } => (evalCall cl tb env H { callee := .value f, args, argTypes }).map fun L => L.map fun r => (r.1, back H r.2, r.2.low.isSome)
  | o => (evalMem tb env H o).map fun L => L.map fun r => (r.1, r.2, !softOp tb env o)

/-- Is an operation's guard met? -/
def guardOk (tb : Tb) (ops : Array Oper) (env : Env) (o : Oper) : Option Bool :=
  match o.guard with
  | none => some true
  | some (j, want) => match (ops[j]?).bind (·.dst) with
    | some d => (match evT env d with
      | .tuple [] => some false
      | v => (condOf tb v).map fun b => b == want)
    | none => some false

def putT (env : Env) (dst : Option Tmp) (v : V) : Env :=
  match dst with
  | some d => env.set d v
  | none => env

/-! ### Outcomes that are the same -/
def sameL {α : Type} (f : α → α → Bool) : List α → List α → Bool
  | [], [] => true
  | a :: l, b :: m => f a b && sameL f l m
  | _, _ => false

def sameVal : Value → Value → Bool
  | .bool a, .bool b => a == b
  | .int k a, .int k' b => k == k' && a == b
  | .string a, .string b => a == b
  | .pointer none, .pointer none | .map none, .map none | .nilFunc, .nilFunc | .nilIface, .nilIface => true
  | _, _ => false

def V.same : Nat → V → V → Bool
  | 0, _, _ => false
  | n + 1, a, b => match a, b with
    | .val x, .val y => sameVal x y
    | .sym t e, .sym t' e' => t == t' && e.beq e'
    | .sli k n e t, .sli k' n' e' t' => k.beq k' && (n.beq n' && (e.beq e' && t == t'))
    | .ptr b o, .ptr b' o' => Nat.beq b b' && Nat.beq o o'
    | .cptr cs, .cptr ds => sameL (V.same n) cs ds
    | .list i es t, .list i' es' t' => i == i' && (t == t' && sameL (sameL (V.same n)) es es')
    | .mslice b o l c, .mslice b' o' l' c' => Nat.beq b b' && (Nat.beq o o' && (Nat.beq l l' && Nat.beq c c'))
    | .vslice b o l c z, .vslice b' o' l' c' z' => Nat.beq b b' && (Nat.beq o o' && (Nat.beq l l' && (Nat.beq c c' && Nat.beq z z')))
    | .map m, .map m' => Nat.beq m m'
    | .yield m, .yield m' => Nat.beq m m'
    | .func (.func g) a b, .func (.func g') a' b' => Nat.beq g g' && (sameL (V.same n) a a' && sameL (V.same n) b b')
    | .iface t v, .iface t' v' => Nat.beq t t' && V.same n v v'
    | .agg cs, .agg ds => sameL (V.same n) cs ds
    | .tuple cs, .tuple ds => sameL (V.same n) cs ds
    | .top, .top => true
    | _, _ => false

def Blk.same : Blk → Blk → Bool
  | .cells cs, .cells ds => sameL (V.same 12) cs ds
  | .tail a, .tail b => a == b
  | .map es c, .map es' c' => Nat.beq c c' && sameL (fun x y => sameVal x.1 y.1 && (V.same 12 x.2.1 y.2.1 && Nat.beq x.2.2 y.2.2)) es es'
  | .siter s p, .siter s' p' => s == s' && Nat.beq p p'
  | .miter m a l b, .miter m' a' l' b' => m == m' && (Nat.beq a a' && (sameL Nat.beq l l' && Nat.beq b b'))
  | _, _ => false

def sameO (f : Blk → Blk → Bool) : Option Blk → Option Blk → Bool
  | some x, some y => f x y
  | none, none => true
  | _, _ => false

/-- What an operation did to memory: it wrote (to one block alone, or anywhere); it read one block. -/
inductive Mark where
  | wrote (b : Option Nat)
  | moved (A B : Heap)
  | read (b : Nat)
abbrev Marks := List (Nat × Mark)

def addMark (tb : Tb) (env : Env) (A B : Heap) (o : Op) (s : Bool) (i : Nat) (hard : Marks) : Marks :=
  if s then (match o with
    | .store _ a _ => (match ev tb env a with
      | .ptr b _ => (i, .wrote (some b)) :: hard
      | _ => (i, .wrote none) :: hard)
    | .call _ => (i, .moved A B) :: hard
    | _ => (i, .wrote none) :: hard)
  else match o with
    | .load _ a => (match ev tb env a with
      | .ptr b _ => (i, .read b) :: hard
      | _ => hard)
    | _ => hard

def isLoad : Op → Bool
  | .load .. => true
  | _ => false

/-- The operations in the order of the text; 'hard' collects the numbers of those that wrote. -/
def execOps (cl : CallFn) (P : Program) (tb : Tb) (ops : Array Oper) : List Oper → Nat → Marks → St → Option (List (St × Marks))
  | [], _, hard, st => some [(st, hard)]
  | o :: l, i, hard, st =>
    match guardOk tb ops st.env o with
    | none => none
    | some false => execOps cl P tb ops l (i + 1) hard { st with env := putT st.env o.dst V.undef }
    | some true => (evalOp cl P tb st.env st.h o.op).bind fun L => bindL L fun r =>
        execOps cl P tb ops l (i + 1) (addMark tb st.env st.h r.2.1 o.op r.2.2 i hard) { env := putT st.env o.dst r.1, h := r.2.1 }

/-- Does one of two operations wait for the other? -/
def ordered (b : Array Nat) (i j : Nat) : Bool := (b.getD (max i j) 0).testBit (min i j)

/-- Every order of a region comes to the same: each operation that wrote waits for, or is waited for by, each other that asks memory; but for loads of other blocks. -/
def drawOk (ops : Array Oper) (hard : Marks) : Bool :=
  (hard.all fun m => match m.2 with | .read _ => true | _ => false) || (let b := CheckFast.beforeF ops
    hard.all fun m => match m.2 with
      | .read _ => true
      | .wrote w => (List.range ops.size).all fun j => j == m.1 || isPure (ops.getD j default).op || ordered b m.1 j || (match w with
        | some x => isLoad (ops.getD j default).op && hard.all fun k => k.1 != j || (match k.2 with | .read y => y != x | _ => false)
        | none => false)
      | .moved A B => (List.range ops.size).all fun j => j == m.1 || isPure (ops.getD j default).op || ordered b m.1 j ||
        (isLoad (ops.getD j default).op && hard.all fun k => k.1 != j || (match k.2 with | .read y => sameO Blk.same (A.get y) (B.get y) | _ => false)))

/-- What an operation names: its result, what it looks at, its guard. -/
def namesOf (ops : Array Oper) (o : Oper) : List Tmp := o.dst.toList ++ o.looksAt ops

/-- Who writes to a temporary and who names it wait for one another; nothing waits for what comes later. -/
def tempsOk (ops : Array Oper) : Bool :=
  let b := CheckFast.beforeF ops
  (List.range ops.size).all fun i =>
    (namesOf ops (ops.getD i default)).all (fun t => decide (t < 1048576)) &&
    (ops.getD i default).after.all (fun e => !Region.binds .any e || decide (e.on < i)) &&
    match (ops.getD i default).dst with
    | none => true
    | some d => (List.range ops.size).all fun j => j == i || !(namesOf ops (ops.getD j default)).contains d || ordered b i j

def findRest (body : Code) (l : Nat) : Option Code := findLabel body l

inductive Tk where
  | code (c : Code)
  | within (body c : Code)

/-- What is asked of a piece of code of a frame of so many temporaries. -/
def opsOk (nt : Nat) (ops : Array Oper) : Bool := ops.all fun o => match o.dst with | some d => decide (d < nt) | none => true
def codeOk (nt : Nat) : Code → Bool
  | .region _ ops draw => opsOk nt ops && (!draw || tempsOk ops)
  | .seq a b => codeOk nt a && codeOk nt b
  | .cond _ x y => codeOk nt x && codeOk nt y
  | .block _ c | .loop c | .scope c => codeOk nt c
  | .rangeFunc _ ps a c => ps.all (fun p => decide (p < nt)) && (codeOk nt a && codeOk nt c)
  | _ => true

/-- The number of the first region of a piece of code, and 1. -/
def loopKey : Code → Nat
  | .region id _ _ => id + 1
  | .seq a b => (match loopKey a with
    | 0 => loopKey b
    | n => n)
  | .cond _ a b => (match loopKey a with
    | 0 => loopKey b
    | n => n)
  | .block _ c | .loop c | .scope c => loopKey c
  | _ => 0

/-- The number of a loop: that of the first region of its body and of what that gives values, and how many loops stand round that. -/
def loopK : Code → Nat
  | .region id ops _ => Nat.add (Nat.mul (Nat.add id 1) 64) (Nat.mul 65536 (ops.toList.foldl (fun a o => Nat.add a (o.dst.getD 0)) 0))
  | .seq a b => (match loopK a with
    | 0 => loopK b
    | n => n)
  | .cond _ a b => (match loopK a with
    | 0 => loopK b
    | n => n)
  | .block _ c | .scope c => loopK c
  | .loop c => Nat.add (loopK c) 1
  | _ => 0
/-- The bodies of the loops of a piece of code. -/
def loopsOf : Code → List Code
  | .seq a b | .cond _ a b => loopsOf a ++ loopsOf b
  | .block _ c | .scope c => loopsOf c
  | .loop c => c :: loopsOf c
  | _ => []
def tkLoops : Tk → List Code
  | .code c => loopsOf c
  | .within body c => loopsOf body ++ loopsOf c

/-- The blocks that a value leads to at once. -/
def V.refs : Nat → V → List Nat
  | 0, _ => []
  | n + 1, v => match v with
    | .ptr b _ | .mslice b _ _ _ | .vslice b _ _ _ _ => [b]
    | .map m | .yield m => [m]
    | .cptr cs | .agg cs | .tuple cs => cs.flatMap (V.refs n)
    | .list _ es tok => (match tok with | .own b _ => [b] | _ => []) ++ es.flatMap fun c => c.flatMap (V.refs n)
    | .sli _ _ _ (.own b _) => [b]
    | .func _ a b => a.flatMap (V.refs n) ++ b.flatMap (V.refs n)
    | .iface _ v => V.refs n v
    | _ => []
def Tr.vals {α : Type} : Tr α → List α
  | .leaf => []
  | .node l v r => v.toList ++ (vals l ++ vals r)
def Blk.refs : Blk → List Nat
  | .cells cs => cs.flatMap (V.refs 12)
  | .map es _ => es.flatMap fun e => V.refs 12 e.2.1
  | .miter (some m) _ _ _ => [m]
  | .loop env _ _ _ _ _ => env.vals.flatMap (V.refs 12)
  | _ => []
/-- What is reached. -/
def reach (H : Heap) : Nat → List Nat → List Nat → List Nat
  | 0, seen, _ => seen
  | _ + 1, seen, [] => seen
  | n + 1, seen, b :: l => if seen.contains b then reach H n seen l else reach H n (b :: seen) ((match H.get b with | some k => k.refs | none => []) ++ l)
def Tr.join {α : Type} (l : Tr α) (v : Option α) (r : Tr α) : Tr α :=
  match l, v, r with
  | .leaf, none, .leaf => .leaf
  | l, v, r => .node l v r
def Tr.keep {α : Type} (p : Nat → Bool) : Tr α → Tr α
  | .leaf => .leaf
  | .node l v r => .join (keep (fun m => p (2 * m + 1)) l) (if p 0 then v else none) (keep (fun m => p (2 * m + 2)) r)
/-- The next number that is a multiple of 256. -/
def roundUp (n : Nat) : Nat := Nat.mul (Nat.add (Nat.div n 256) 1) 256
/-- What nobody leads to is dropped, of a frame's own blocks; the next block's number is rounded up. -/
def Heap.sweep (H : Heap) (env : Env) : Heap :=
  { H with next := roundUp H.next, tab := H.tab.keep (let R := reach H 100000 [] (env.vals.flatMap (V.refs 12)); fun b => Nat.blt b H.base || R.contains b) }

/-- An unknown number of another name, if it is the same. -/
def renameV (tb : Tb) (k t : Nat) (v : V) : V :=
  match v with
  | .sym (.int kk) e => (match tb.ren k t e with
    | some m => if e.num tb.rho == (SE.ivar kk m).num tb.rho then .sym (.int kk) (.ivar kk m) else v
    | none => v)
  | v => v
def renEnv (tb : Tb) (k : Nat) : List Nat → Env → Env
  | [], env => env
  | t :: l, env => renEnv tb k l (env.set t (renameV tb k t (evT env t)))
def deadEnv (l : List Nat) (env : Env) : Env := l.foldl (fun e t => e.set t .top) env
def renSt (tb : Tb) (k : Nat) (env : Env) (H : Heap) : St :=
  { env := renEnv tb k (tb.renT k) env, h := H.sweep (renEnv tb k (tb.renT k) env) }

/-- Behind a round of a loop (of the loop's key) and between two pieces of code (of the second's key and 2^20): temporaries that are not read any more are forgotten, and what they alone led to. -/
def forget (tb : Tb) (k : Nat) (st : St) : St :=
  match tb.dead k with
  | [] => st
  | l => renSt tb k (deadEnv l st.env) st.h

/-- The mark of a frame that is a round's. -/
def inRound (env : Env) : Bool := (env.get 2097152).isSome

/-- How a pending jump leaves the code. -/
def exOf : Option Code → Option Ex
  | none => some .normal
  | some .ret => some .ret
  | some (.exit id) => some (.exit id)
  | some (.goto l) => some (.goto l)
  | _ => none

/-- Behind a loop over a function: what a round has left to be done. -/
def endLoopV (st : St) (k : Nat) (H : Heap) : Option (List (Ex × St)) :=
  match H.get k with
  | some (.loop _ _ _ _ state pend) => (match state with
    | .busy => none
    | _ => (exOf pend).map fun e => [(e, { env := st.env, h := H.put k (.tail false) })])
  | _ => none

/-- A loop over a function: the function is called with the loop's yield. -/
def rangeFuncV (cl : CallFn) (tb : Tb) (g : Operand) (ps : Array Tmp) (asg body : Code) (st : St) : Option (List (Ex × St)) :=
  if inRound st.env then none else
  match ev tb st.env g with
  | .func (.func gf) first captured => if Nat.blt gf roundBase then
      (st.h.new (.loop st.env ps asg body .ready none)).bind fun H1 =>
        (cl gf (first ++ [.yield st.h.next] ++ captured) { H1 with base := H1.next, low := none }).bind fun L => bindL L fun r => endLoopV st st.h.next (back H1 r.2)
    else none
  | _ => none

def stepC (cl : CallFn) (P : Program) (tb : Tb) (ih : Tk → St → Option (List (Ex × St))) : Tk → St → Option (List (Ex × St))
  | .code .skip, st | .code (.label _), st => some [(.normal, st)]
  | .code (.region _ ops draw), st => (execOps cl P tb ops ops.toList 0 [] st).bind fun L =>
      if draw then (if L.length == 1 && L.all fun r => drawOk ops r.2 then some (L.map fun r => (.normal, r.1)) else none) else some (L.map fun r => (.normal, r.1))
  | .code (.seq a b), st => (ih (.code a) st).bind fun L => bindL L fun r => match r.1 with
      | .normal => ih (.code b) (forget tb (loopKey b + 1048576) r.2)
      | e => some [(e, r.2)]
  | .code (.cond c x y), st => (match condOf tb (ev tb st.env c) with
      | some t => if t then ih (.code x) st else ih (.code y) st
      | none => none)
  | .code (.block id c), st => (ih (.code c) st).map fun L => L.map fun r => (match r.1 with
      | .exit j => if j = id then .normal else .exit j
      | e => e, r.2)
  | .code (.loop c), st => (match tb.loopT (loopK c) st with
    | some t => some [t.eval tb.rho st.h]
    | none => (ih (.code c) st).bind fun L => bindL L fun r => match r.1 with
      | .normal => ih (.code (.loop c)) (forget tb (loopKey c) r.2)
      | e => some [(e, r.2)])
  | .code (.exit id), st => some [(.exit id, st)]
  | .code (.goto l), st => some [(.goto l, st)]
  | .code .ret, st => some [(.ret, st)]
  | .code (.rangeFunc g ps asg body), st => rangeFuncV cl tb g ps asg body st
  | .code (.scope c), st => ih (.within c c) st
  | .within body c, st => (ih (.code c) st).bind fun L => bindL L fun r => match r.1 with
      | .goto l => (match findLabel body l with
        | some rest => ih (.within body rest) r.2
        | none => some [(.goto l, r.2)])
      | e => some [(e, r.2)]
  | _, _ => none

def exec (cl : CallFn) (P : Program) (tb : Tb) (n : Nat) : Tk → St → Option (List (Ex × St)) :=
  Nat.rec (fun _ _ => none) (fun _ ih => stepC cl P tb ih) n

def resultOf (tb : Tb) (st : St) : ResultVar → Option V
  | .tmp t => some (evT st.env t)
  | .cell a t => evalLoad tb st.h t (evT st.env a)

def resultsOf (tb : Tb) (fn : Func) (st : St) : Option V :=
  (fn.results.toList.mapM (resultOf tb st)).map fun vs => match vs with | [v] => v | vs => .tuple vs

def putArgs : Nat → List V → Env → Env
  | _, [], env => env
  | i, v :: l, env => putArgs (i + 1) l (env.set i v)

def putList : List Tmp → List V → Env → Env
  | [], _, env => env
  | _, [], env => env
  | t :: ts, v :: vs, env => putList ts vs (env.set t v)

/-- The jump that a way out of a round leaves pending. -/
def jumpOf : Ex → Option Code
  | .normal => none
  | .ret => some .ret
  | .exit id => some (.exit id)
  | .goto l => some (.goto l)

/-- A round's end. -/
def endRoundV (k : Nat) (q : Ex × St) : Option (List (V × Heap)) :=
  match q.2.h.get k with
  | some (.loop env ps asg body _ _) => some [(.bool (jumpOf q.1).isNone, q.2.h.put k (.loop env ps asg body (if (jumpOf q.1).isNone then .ready else .done) (jumpOf q.1)))]
  | _ => none

/-- A round's body, behind the assignment of the loop's variables. -/
def bodyRoundV (ex : Tk → St → Option (List (Ex × St))) (k : Nat) (body : Code) (r : Ex × St) : Option (List (V × Heap)) :=
  match r.1 with
  | .normal => (match r.2.h.get k with
    | some (.loop env ps asg body2 state pend) => (match state with
      | .ready => (ex (.code body) { env := r.2.env, h := r.2.h.put k (.loop env ps asg body2 .busy pend) }).bind fun L => bindL L (endRoundV k)
      | _ => none)
    | _ => none)
  | _ => none

/-- A round of a loop over a function. -/
def stepRound (ex : Tk → St → Option (List (Ex × St))) (k : Nat) (args : List V) (H : Heap) : Option (List (V × Heap)) :=
  match H.get k with
  | some (.loop env ps asg body _ _) => if Nat.beq args.length ps.size then
      (ex (.code asg) { env := (putList ps.toList args env).set 2097152 .top, h := H }).bind fun L => bindL L (bodyRoundV ex k body)
    else none
  | _ => none

def stepCall (P : Program) (tb : Tb) (n : Nat) (cl : CallFn) : CallFn := fun f args H =>
  if Nat.ble roundBase f then stepRound (exec cl P tb.bare n) (Nat.sub f roundBase) args H else
  match tb.spec f args H with
  | some r => some [(r.1, H)]
  | none => match tb.func f with
  | none => none
  | some fn => match fn.body with
    | none => none
    | some c => if fn.ntmps < 1048576 && args.length ≤ fn.ntmps then
        (exec cl P tb n (.code c) { env := putArgs 0 args .leaf, h := H }).bind fun L => bindL L fun r => match r.1 with
          | .normal | .ret => (resultsOf tb fn r.2).map fun v => [(v, r.2.h)]
          | _ => none
      else none

/-- From which block on two heaps behind a third may differ. -/
def fromB (H A : Heap) : Nat :=
  match A.low with
  | some l => min l H.base
  | none => H.base

def Heap.agree (H A B : Heap) : Bool :=
  Nat.beq A.next B.next && (A.low == B.low && (List.range (A.next - fromB H A)).all fun i => sameO Blk.same (A.get (fromB H A + i)) (B.get (fromB H A + i)))

/-- Outcomes, each once. -/
def mergeL (H : Heap) : List (V × Heap) → List (V × Heap)
  | [] => []
  | r :: l => if (mergeL H l).any fun q => V.same 12 r.1 q.1 && Heap.agree H r.2 q.2 then mergeL H l else r :: mergeL H l

def stepCallM (P : Program) (tb : Tb) (n : Nat) (cl : CallFn) : CallFn := fun f args H => (stepCall P tb n cl f args H).map (mergeL H)

def call (P : Program) (tb : Tb) (n : Nat) : CallFn := Nat.rec (fun _ _ _ => none) (fun n cl => stepCallM P tb n cl) n

end
end Go.Sx
