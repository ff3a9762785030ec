/- A small abstract machine for the program's form: what its states are, and how it runs. Conditions: none; these are definitions. -/
import Derived.RowKit3
import Derived.KernelRfl
import Derived.Below
import Derived.Orders
import Derived.Tactics
import Derived.Laws.OwnMore
namespace Go.Proofs.YtieeiiibamkbmaaGreat.Am
open Go Go.RowKit

/-- Codes of the types whose values are pure. -/
inductive Ty where
  | int (k : IntKind)
  | bool
  | str
  | slice (e : Ty)
  | pair (a b : Ty)
  | one (a : Ty)
  | unit
  deriving DecidableEq
@[reducible] def Ty.den : Ty → Type
  | .int _ => Int
  | .bool => Bool
  | .str => ByteArray
  | .slice e => List e.den
  | .pair a b => a.den × b.den
  | .one a => a.den
  | .unit => Unit
def Ty.zero : (t : Ty) → t.den
  | .int _ => (0 : Int)
  | .bool => false
  | .str => (⟨#[]⟩ : ByteArray)
  | .slice _ => []
  | .pair a b => (a.zero, b.zero)
  | .one a => a.zero
  | .unit => ()
def Ty.cells : Ty → Nat
  | .pair a b => a.cells + b.cells
  | .one a => a.cells
  | .unit => 0
  | _ => 1
def Ty.isAgg : Ty → Bool
  | .pair _ _ => true
  | .one _ => true
  | _ => false
/-- A pure value. -/
inductive Pv where
  | v (t : Ty) (x : t.den)
  /-- the slice that is nil -/
  | nil (e : Ty)
def Pv.t : Pv → Ty
  | .v t _ => t
  | .nil e => .slice e
def Pv.x : (p : Pv) → p.t.den
  | .v _ x => x
  | .nil _ => []
/-- Its cells, each of one cell's type. -/
def unpack : (t : Ty) → t.den → List Pv
  | .unit, _ => []
  | .pair a b, x => unpack a x.1 ++ unpack b x.2
  | .one a, x => unpack a x
  | .int k, x => [(.v (.int k) x)]
  | .bool, x => [(.v .bool x)]
  | .str, x => [(.v .str x)]
  | .slice e, x => [(.v (.slice e) x)]
/-- The cells of a type's zero value. -/
def unpackZ : Ty → List Pv
  | .unit => []
  | .pair a b => unpackZ a ++ unpackZ b
  | .one a => unpackZ a
  | .int k => [.v (.int k) (0 : Int)]
  | .bool => [.v .bool false]
  | .str => [.v .str (⟨#[]⟩ : ByteArray)]
  | .slice e => [.nil e]
def castTy (a b : Ty) (x : a.den) : Option b.den := if h : a = b then some (h ▸ x) else none
def pack1 (t : Ty) : List Pv → Option (t.den × List Pv)
  | [] => none
  | p :: l => match castTy p.t t p.x with
    | some x => some (x, l)
    | none => none
def pack : (t : Ty) → List Pv → Option (t.den × List Pv)
  | .pair a b, l => match pack a l with
    | some (x, l1) => match pack b l1 with
      | some (y, l2) => some ((x, y), l2)
      | none => none
    | none => none
  | .one a, l => pack a l
  | .unit, l => some ((), l)
  | .int k, l => pack1 (.int k) l
  | .bool, l => pack1 .bool l
  | .str, l => pack1 .str l
  | .slice e, l => pack1 (.slice e) l
/-- All of the cells. -/
def packAll (t : Ty) (l : List Pv) : Option t.den := match pack t l with
  | some (x, []) => some x
  | _ => none

/-- A value of one register, pure: one cell, or the cells of a struct or an array. -/
inductive V1 where
  | v (p : Pv)
  | agg (ps : List Pv)
def V1.of (t : Ty) (x : t.den) : V1 := bif t.isAgg then .agg (unpack t x) else .v (.v t x)
def V1.cells : V1 → List Pv
  | .v p => [p]
  | .agg ps => ps
def V1.to (t : Ty) : V1 → Option t.den
  | .v p => bif t.isAgg then none else castTy p.t t p.x
  | .agg ps => bif t.isAgg then packAll t ps else none
/-- What a register holds. -/
inductive RV where
  | p (x : V1)
  | tup (xs : List V1)
  /-- a pointer into a variable of the call's own -/
  | ptr (k off : Nat)
  /-- a pointer into memory that holds p and is not written -/
  | cel (p : Pv) (off : Nat)
  /-- a row of the call's own -/
  | row (k : Nat)
  /-- a pointer to an element of it -/
  | mel (k i off : Nat)
  /-- a function value -/
  | clos (f : FuncId) (first : List V1) (cap : List Nat)
  /-- undefined -/
  | und
  /-- not known -/
  | unk
/-- A block of the call's own. -/
inductive Blk where
  /-- a variable; w: may it be written? -/
  | box (w : Bool) (t : TypeId) (cs : List RV)
  | row (te : TypeId) (e : Ty) (xs : List e.den)
  | sealed (e : Ty) (xs : List e.den)
  | dead
def look {β : Type} (d : β) : List (Nat × β) → Nat → β
  | [], _ => d
  | (k, v) :: l, t => cond (Nat.beq k t) v (look d l t)
structure St where
  regs : List (Nat × RV)
  heap : List (Nat × Option Blk)
def St.get (S : St) (t : Nat) : RV := look .unk S.regs t
def St.hp (S : St) (k : Nat) : Option Blk := look none S.heap k
def St.set (S : St) (t : Nat) (r : RV) : St := ⟨(t, r) :: S.regs, S.heap⟩
def St.put (S : St) (k : Nat) (b : Blk) : St := ⟨S.regs, (k, some b) :: S.heap⟩

section
variable (P : Program)
/-- The code of a type of the program's. -/
def tyOf : Nat → TypeId → Option Ty
  | 0, _ => none
  | n + 1, t => match P.underlying t with
    | some .bool => some .bool
    | some (.int k) => some (.int k)
    | some .string => some .str
    | some (.slice e) => match tyOf n e with
      | some x => some (.slice x)
      | none => none
    | some (.struct fs) => tys (fs.toList.map (fun f => tyOf n f.type))
    | some (.array m e) => tys (List.replicate m (tyOf n e))
    | _ => none
where
  tys : List (Option Ty) → Option Ty
    | [] => none
    | [some a] => some (.one a)
    | some a :: l => match tys1 l with
      | some b => some (.pair a b)
      | none => none
    | none :: _ => none
  tys1 : List (Option Ty) → Option Ty
    | [] => none
    | [x] => x
    | some a :: l => match tys1 l with
      | some b => some (.pair a b)
      | none => none
    | none :: _ => none
def ty (t : TypeId) : Option Ty := tyOf P 8 t
def sz (t : TypeId) : Nat := match P.info? t with
  | some i => i.size
  | none => 0
def aggT (t : TypeId) : Bool := match P.underlying t with
  | some (.struct _) => true
  | some (.array _ _) => true
  | _ => false
/-- A constant of a type. -/
def constRV (t : TypeId) : Value → RV
  | .int k n => .p (.v (.v (.int k) n))
  | .bool b => .p (.v (.v .bool b))
  | .string s => .p (.v (.v .str s))
  | .slice none 0 0 => match ty P t with
    | some (.slice e) => .p (.v (.nil e))
    | _ => .unk
  | _ => .unk
def ev (S : St) (t : TypeId) : Operand → RV
  | .tmp r => S.get r
  | .const v => constRV P t v
  | .func f => .clos f [] []
  | .global _ => .unk
/-- A row as a pure value. -/
def asRow (S : St) : RV → Option Pv
  | .p (.v (.v (.slice e) xs)) => some (.v (.slice e) xs)
  | .p (.v (.nil e)) => some (.v (.slice e) [])
  | .row k => match S.hp k with
    | some (.row _ e xs) => some (.v (.slice e) xs)
    | some (.sealed e xs) => some (.v (.slice e) xs)
    | _ => none
  | _ => none
/-- A register's pure value; of a row: what it holds now. -/
def pure1 (S : St) : RV → Option V1
  | .p x => some x
  | .row k => match asRow S (.row k) with
    | some p => some (.v p)
    | none => none
  | _ => none
/-- The heap block that a reading of this touches. -/
def heapOf : RV → List Nat
  | .row k => [k]
  | .ptr k _ => [k]
  | .mel k _ _ => [k]
  | _ => []
/-- The rows among these are sealed. -/
def seals (S : St) : List RV → List (Nat × Blk)
  | [] => []
  | .row k :: l => match S.hp k with
    | some (.row _ e xs) => (k, .sealed e xs) :: seals S l
    | _ => seals S l
  | _ :: l => seals S l
/-- What an operation does: the value of its register, and blocks. -/
structure Eff where
  v : RV
  hp : List (Nat × Blk)
  rd : List Nat

/-! Whole numbers. -/
def arith (op : BinOp) (k : IntKind) (a b : Int) : Option Pv :=
  match op with
  | .add => some (.v (.int k) (k.wrap (a + b)))
  | .sub => some (.v (.int k) (k.wrap (a - b)))
  | .mul => some (.v (.int k) (k.wrap (a * b)))
  | .and => some (.v (.int k) (k.wrap (BitVec.ofInt k.bits a &&& BitVec.ofInt k.bits b).toNat))
  | .or => some (.v (.int k) (k.wrap (BitVec.ofInt k.bits a ||| BitVec.ofInt k.bits b).toNat))
  | .xor => some (.v (.int k) (k.wrap (BitVec.ofInt k.bits a ^^^ BitVec.ofInt k.bits b).toNat))
  | .eql => some (.v .bool (a == b))
  | .neq => some (.v .bool (a != b))
  | .lss => some (.v .bool (decide (a < b)))
  | .leq => some (.v .bool (decide (a ≤ b)))
  | .gtr => some (.v .bool (decide (a > b)))
  | .geq => some (.v .bool (decide (a ≥ b)))
  | _ => none
/-- Equality of two cells. -/
def eqPv (p q : Pv) : Option Bool :=
  match p, q with
  | (.v (.int k) a), (.v (.int k') b) => if k = k' then some ((a : Int) == b) else none
  | (.v .bool a), (.v .bool b) => some ((a : Bool) == b)
  | (.v .str a), (.v .str b) => some ((a : ByteArray) == b)
  | _, _ => none
def eqPvs : List Pv → List Pv → Option Bool
  | [], [] => some true
  | [p], [q] => eqPv p q
  | p :: l, q :: m => match eqPv p q, eqPvs l m with
    | some a, some b => some (a && b)
    | _, _ => none
  | _, _ => none
/-- A binary operation on pure values. -/
def binK (op : BinOp) (xt : TypeId) (a b : V1) (K : Pv → Prop) : Prop :=
  match a, b with
  | .v (.v (.int k) x), .v (.v (.int k') y) =>
    match op with
    | .quo => if k = k' then (if (y : Int) = 0 then False else K (.v (.int k) (k.wrap (Int.tdiv x y)))) else False
    | .rem => if k = k' then (if (y : Int) = 0 then False else K (.v (.int k) (Int.tmod x y))) else False
    | .shl => if (y : Int) < 0 then False else K (.v (.int k) (k.wrap ((x : Int) * 2 ^ (min (Int.toNat y) k.bits))))
    | .shr => if (y : Int) < 0 then False else K (.v (.int k) (Int.fdiv x (2 ^ (min (Int.toNat y) k.bits))))
    | _ => if k = k' then (match arith op k x y with
      | some p => K p
      | none => False) else False
  | .v (.v .str x), .v (.v .str y) =>
    match op with
    | .eql => K (.v .bool ((ByteArray.toList x) == (ByteArray.toList y)))
    | .neq => K (.v .bool (!((ByteArray.toList x) == (ByteArray.toList y))))
    | _ => False
  | .v (.v .bool x), .v (.v .bool y) =>
    match P.underlying xt with
    | some .bool => (match op with
      | .eql => K (.v .bool ((x : Bool) == y))
      | .neq => K (.v .bool (!((x : Bool) == y)))
      | _ => False)
    | _ => False
  | _, _ => False
def unK (op : UnOp) (a : V1) (K : Pv → Prop) : Prop :=
  match op, a with
  | .neg, .v (.v (.int k) x) => K (.v (.int k) (k.wrap (0 - (x : Int))))
  | .not, .v (.v .bool x) => K (.v .bool (!(x : Bool)))
  | _, _ => False
end
end Go.Proofs.YtieeiiibamkbmaaGreat.Am
