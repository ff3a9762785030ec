/- The abstract machine's operations and its run. Conditions: none; these are definitions. -/
import Derived.Test.YtieeiiibamkbmaaGreatAmA
namespace Go.Proofs.YtieeiiibamkbmaaGreat.Am
open Go Go.RowKit

/-! Cells -/
def toCells (S : St) : RV → Option (List RV)
  | .p x => some (x.cells.map (fun p => .p (.v p)))
  | .ptr k o => some [.ptr k o]
  | .cel p o => some [.cel p o]
  | .clos f a c => some [.clos f a c]
  | .row k => match asRow S (.row k) with
    | some _ => some [.row k]
    | none => none
  | _ => none
def pvs (S : St) : List RV → Option (List Pv)
  | [] => some []
  | .p (.v p) :: l => match pvs S l with
    | some ps => some (p :: ps)
    | none => none
  | .row k :: l => match asRow S (.row k), pvs S l with
    | some p, some ps => some (p :: ps)
    | _, _ => none
  | _ :: _ => none
def ofPvs (agg : Bool) (l : List Pv) : Option RV :=
  bif agg then some (.p (.agg l)) else match l with
    | [p] => some (.p (.v p))
    | _ => none
def move (S : St) (r : RV) (n : Nat) : Option RV := match r with
  | .ptr k o => some (.ptr k (o + n))
  | .cel p o => some (.cel p (o + n))
  | .mel k i o => (match S.hp k with
    | some (.row _ _ _) => some (.mel k i (o + n))
    | _ => none)
  | _ => none
def melOf : RV → List Nat
  | .mel k _ _ => [k]
  | _ => []
/-- cells off, .., off + n - 1 of l, if it has them -/
def cut {α : Type} (l : List α) (off n : Nat) : Option (List α) := if off + n ≤ l.length then some ((l.drop off).take n) else none
def splice {α : Type} (l : List α) (off : Nat) (m : List α) : List α := l.take off ++ m ++ l.drop (off + m.length)

section
variable (P : Program)
/-- Is a type's zero value the one that its code says? -/
def isZ (p : Pv) (v : Value) : Bool := match p, v with
  | (.v (.int k) n), .int k' n' => decide (k = k') && decide ((n : Int) = n')
  | (.v .bool b), .bool b' => (b : Bool) == b'
  | (.v .str s), .string s' => (s : ByteArray).data.toList == s'.data.toList
  | .nil _, .slice none 0 0 => true
  | _, _ => false
def isZs : List Pv → List Value → Bool
  | [], [] => true
  | p :: l, v :: m => isZ p v && isZs l m
  | _, _ => false
def zeroOk (t : TypeId) (e : Ty) : Bool := match P.info? t with
  | some i => (match i.zero with
    | some z => isZs (unpackZ e) z.cells.toList && decide (i.size = e.cells)
    | none => false)
  | none => false
def szIs (t : TypeId) (n : Nat) : Bool := match P.info? t with
  | some i => decide (i.size = n)
  | none => false
/-- The cells of a value of type t. -/
def cutT {α : Type} (t : TypeId) (l : List α) (off : Nat) : Option (List α) := match P.underlying t, P.info? t with
  | some _, some i => cut l off i.size
  | _, _ => none
def partV (t : TypeId) (l : List Pv) (off : Nat) : Option V1 := match cutT P t l off with
  | some m => bif aggT P t then some (.agg m) else (match m with
    | [p] => some (.v p)
    | _ => none)
  | none => none
/-- The equality of two values of a type. -/
def eqV : Nat → TypeId → V1 → V1 → Option Bool
  | 0, _, _, _ => none
  | n + 1, t, a, b => match P.underlying t, a, b with
    | some .bool, .v (.v .bool x), .v (.v .bool y) => some ((x : Bool) == y)
    | some (.int _), .v (.v (.int k) x), .v (.v (.int k') y) => if k = k' then some ((x : Int) == y) else none
    | some .string, .v (.v .str x), .v (.v .str y) => some (ByteArray.toList x == ByteArray.toList y)
    | some (.struct fs), .agg xs, .agg ys => bif P.stoodInHeld t || P.eqGuardType P.depth t then none else eqFs (eqV n) xs ys fs.toList
    | _, _, _ => none
where
  eqFs (E : TypeId → V1 → V1 → Option Bool) (xs ys : List Pv) : List Field → Option Bool
    | [] => some true
    | [f] => match partV P f.type xs f.offset, partV P f.type ys f.offset with
      | some a, some b => bif f.name == "_" then none else E f.type a b
      | _, _ => none
    | f :: fs => match partV P f.type xs f.offset, partV P f.type ys f.offset with
      | some a, some b => bif f.name == "_" then none else (match E f.type a b, eqFs E xs ys fs with
        | some r, some q => some (r && q)
        | _, _ => none)
      | _, _ => none

/-! Calls -/
def dens : List Ty → Type
  | [] => Unit
  | t :: l => t.den × dens l
/-- The results: none, one, or several. -/
@[reducible] def rden : List Ty → Type
  | [] => Unit
  | [a] => a.den
  | a :: b :: l => a.den × rden (b :: l)
def encRs : (l : List Ty) → rden l → List V1
  | [], _ => []
  | [a], x => [V1.of a x]
  | a :: b :: l, x => V1.of a x.1 :: encRs (b :: l) x.2
def encR (l : List Ty) (x : rden l) : RV := match l, x with
  | [a], x => .p (V1.of a x)
  | l, x => .tup (encRs l x)
inductive PS where
  | val (t : Ty)
  | lit (r : RV)
def valTys : List PS → List Ty
  | [] => []
  | .val t :: l => t :: valTys l
  | .lit _ :: l => valTys l
def sameRef : RV → RV → Bool
  | .ptr k o, .ptr k' o' => Nat.beq k k' && Nat.beq o o'
  | .clos f [] c, .clos g [] d => Nat.beq f g && (c == d)
  | _, _ => false
def decPs : (l : List PS) → List RV → Option (dens (valTys l))
  | [], [] => some ()
  | .val t :: l, .p x :: rs => match x.to t, decPs l rs with
    | some a, some b => some (a, b)
    | _, _ => none
  | .lit r :: l, r' :: rs => bif sameRef r r' then decPs l rs else none
  | _, _ => none
def encPs : (l : List PS) → dens (valTys l) → List RV
  | [], _ => []
  | .val t :: l, x => .p (V1.of t x.1) :: encPs l x.2
  | .lit r :: l, x => r :: encPs l x
/-- A variable that is handed over: of a pure type (w: it may be written), or with cells that are known. -/
inductive BS where
  | val (w : Bool) (t : TypeId) (e : Ty)
  | lit (t : TypeId) (cs : List RV)
def bTys : List BS → List Ty
  | [] => []
  | .val _ _ e :: l => e :: bTys l
  | .lit _ _ :: l => bTys l
/-- Those that may be written. -/
def oTys : List BS → List Ty
  | [] => []
  | .val true _ e :: l => e :: oTys l
  | .val false _ _ :: l => oTys l
  | .lit _ _ :: l => oTys l
def sameRefs : List RV → List RV → Bool
  | [], [] => true
  | a :: l, b :: m => sameRef a b && sameRefs l m
  | _, _ => false
def asPvs : List RV → Option (List Pv)
  | [] => some []
  | .p (.v p) :: l => match asPvs l with
    | some ps => some (p :: ps)
    | none => none
  | _ :: _ => none
def decBs : (l : List BS) → List Blk → Option (dens (bTys l))
  | [], [] => some ()
  | .val w t e :: l, .box w' t' cs :: bs => match asPvs cs with
    | some ps => (match packAll e ps, decBs l bs with
      | some a, some b => bif Nat.beq t t' && (w' || !w) then some (a, b) else none
      | _, _ => none)
    | none => none
  | .lit t cs :: l, .box _ t' cs' :: bs => bif Nat.beq t t' && sameRefs cs cs' then decBs l bs else none
  | _, _ => none
/-- What the written variables hold. -/
def encBs : (l : List BS) → dens (oTys l) → List (Option Blk)
  | [], _ => []
  | .val true t e :: l, x => some (.box true t ((unpack e x.1).map (fun p => .p (.v p)))) :: encBs l x.2
  | .val false _ _ :: l, x => none :: encBs l x
  | .lit _ _ :: l, x => none :: encBs l x
/-- What is known of a function. sl: its results have slices inside. own: its result is a new row. -/
structure Fe where
  f : FuncId
  ps : List PS
  bs : List BS
  rs : List Ty
  sl : Bool
  own : Option TypeId
  X : dens (valTys ps) → dens (bTys bs) → (rden rs → dens (oTys bs) → Prop) → Prop
def Fe.run (e : Fe) (args : List RV) (bs : List Blk) (K : Option (RV → List (Option Blk) → Prop)) : Prop :=
  match K with
  | none => False
  | some K => match decPs e.ps args, decBs e.bs bs with
    | some x, some y => e.X x y (fun r z => K (encR e.rs r) (encBs e.bs z))
    | _, _ => False
def Fe.fits (e : Fe) (f : FuncId) (args : List RV) (bs : List Blk) : Bool := Nat.beq e.f f && (decPs e.ps args).isSome && (decBs e.bs bs).isSome
def findFe : List Fe → FuncId → List RV → List Blk → Option Fe
  | [], _, _, _ => none
  | e :: l, f, args, bs => bif e.fits f args bs then some e else findFe l f args bs

def refs1 : RV → List Nat
  | .ptr k _ => [k]
  | .clos _ _ c => c
  | _ => []
def addNew (l : List Nat) : List Nat → List Nat
  | [] => l
  | k :: m => bif l.contains k then addNew l m else addNew (l ++ [k]) m
def blkRefs (S : St) (k : Nat) : List Nat := match S.hp k with
  | some (.box _ _ cs) => cs.flatMap refs1
  | _ => []
def reach (S : St) : Nat → List Nat → List Nat
  | 0, l => l
  | n + 1, l => reach S n (addNew l (l.flatMap (blkRefs S)))
def ren (l : List Nat) (k : Nat) : Nat := 1000 + l.idxOf k
def renRV (f : Nat → Nat) : RV → RV
  | .ptr k o => .ptr (f k) o
  | .clos g a c => .clos g a (c.map f)
  | r => r
def renBlk (f : Nat → Nat) : Blk → Blk
  | .box w t cs => .box w t (cs.map (renRV f))
  | b => b
/-- An argument: pure, or a pointer to a whole variable of the call's own, or a function value. -/
def argRV (S : St) (r : RV) : Option RV := match r with
  | .ptr k 0 => some (.ptr k 0)
  | .clos f a c => some (.clos f a c)
  | r => match pure1 S r with
    | some x => some (.p x)
    | none => none
def allSome {α : Type} : List (Option α) → Option (List α)
  | [] => some []
  | some a :: l => match allSome l with
    | some m => some (a :: m)
    | none => none
  | none :: _ => none
/-- A new row of the register's own. -/
def newRow (S : St) (d : Option Tmp) (b : Blk) (more : List (Nat × Blk)) (rd : List Nat) (K : Eff → Prop) : Prop := match d with
  | some d => (match S.hp d with
    | none => K ⟨.row d, (d, b) :: more, d :: rd⟩
    | some _ => False)
  | none => False
/-- The variables that may have been written. -/
def muts : List Nat → List (Option Blk) → List (Nat × Blk)
  | k :: l, some b :: m => (k, b) :: muts l m
  | _ :: l, none :: m => muts l m
  | _, _ => []
def refsIn : Blk → List Nat
  | .box _ _ cs => cs.flatMap refs1
  | _ => []
def callF (Γ : List Fe) (S : St) (d : Option Tmp) (f : FuncId) (args : List RV) (K : Eff → Prop) : Prop :=
  match allSome (args.map (argRV S)) with
  | none => False
  | some as =>
    let ids := reach S 4 (addNew [] (as.flatMap refs1))
    match allSome (ids.map S.hp) with
    | none => False
    | some bs =>
      let as' := as.map (renRV (ren ids))
      let bs' := bs.map (renBlk (ren ids))
      match (bif (as.flatMap refs1 ++ bs.flatMap refsIn).all (fun k => ids.contains k) then findFe Γ f as' bs' else none) with
      | none => False
      | some e => e.run as' bs' (some (fun r zs =>
          match e.own, r with
          | none, r => K ⟨r, muts ids zs ++ (bif e.sl then seals S args else []), args.flatMap heapOf ++ ids⟩
          | some te, .p (.v (.v (.slice el) xs)) => bif e.bs.isEmpty then newRow S d (.row te el xs) [] (args.flatMap heapOf ++ ids) K else False
          | _, _ => False))

/-! Operations -/
def most : Int := 1073741824
def strByte (s : ByteArray) (i : Int) : Int := ((s.data.toList[i.toNat]?).getD 0).toNat
def intOfRV : RV → Option Int
  | .p (.v (.v (.int _) n)) => some n
  | _ => none
def lenK (S : St) (t : TypeId) (r : RV) (K : Int → Prop) : Prop :=
  match P.underlying t, r with
  | some .string, .p (.v (.v .str s)) => K ((s : ByteArray).size : Int)
  | some (.slice _), r => (match asRow S r with
    | some (.v (.slice _) xs) => K ((xs.length : Nat) : Int)
    | _ => False)
  | _, _ => False
def loadK (S : St) (t : TypeId) (a : RV) (K : Eff → Prop) : Prop :=
  match a with
  | .ptr k off => (match S.hp k with
    | some (.box _ _ cs) => (match cutT P t cs off with
      | some l => bif aggT P t then (match pvs S l with
          | some ps => K ⟨.p (.agg ps), seals S l, k :: l.flatMap heapOf⟩
          | none => False) else (match l with
          | [r] => K ⟨r, [], [k]⟩
          | _ => False)
      | none => False)
    | _ => False)
  | .cel p off => (match cutT P t (unpack p.t p.x) off with
    | some l => (match ofPvs (aggT P t) l with
      | some r => K ⟨r, [], []⟩
      | none => False)
    | none => False)
  | .mel k i off => (match S.hp k with
    | some (.row _ e xs) => (match cutT P t (unpack e (xs.getD i e.zero)) off with
      | some l => (match ofPvs (aggT P t) l with
        | some r => K ⟨r, [], [k]⟩
        | none => False)
      | none => False)
    | _ => False)
  | _ => False
def storeK (S : St) (t : TypeId) (a r : RV) (K : Eff → Prop) : Prop :=
  match a with
  | .ptr k off => (match S.hp k, toCells S r with
    | some (.box true tb cs), some m => if szIs P t m.length = true ∧ off + m.length ≤ cs.length then K ⟨.und, [(k, .box true tb (splice cs off m))], k :: heapOf r⟩ else False
    | _, _ => False)
  | .mel k i off => (match S.hp k, pure1 S r with
    | some (.row te e xs), some v => if szIs P t v.cells.length = true ∧ off + v.cells.length ≤ e.cells ∧ (heapOf r).contains k = false then (match packAll e (splice (unpack e (xs.getD i e.zero)) off v.cells) with
      | some y => K ⟨.und, (k, .row te e (xs.set i y)) :: seals S [r], k :: heapOf r⟩
      | none => False) else False
    | _, _ => False)
  | _ => False
def indexK (S : St) (t : TypeId) (x : RV) (n : Int) (K : RV → List Nat → Prop) : Prop :=
  match P.underlying t with
  | some (.slice te) => (match x with
    | .p (.v (.v (.slice e) xs)) => if szIs P te e.cells = true then ((0 ≤ n ∧ n < ((List.length xs : Nat) : Int)) ∧ K (.cel (.v e (xs.getD n.toNat e.zero)) 0) []) else False
    | .row k => (match S.hp k with
      | some (.row _ e xs) => if szIs P te e.cells = true then ((0 ≤ n ∧ n < ((List.length xs : Nat) : Int)) ∧ K (.mel k n.toNat 0) [k]) else False
      | some (.sealed e xs) => if szIs P te e.cells = true then ((0 ≤ n ∧ n < ((List.length xs : Nat) : Int)) ∧ K (.cel (.v e (xs.getD n.toNat e.zero)) 0) [k]) else False
      | _ => False)
    | _ => False)
  | some (.array len te) => if (0 ≤ n ∧ n < (len : Int)) ∧ (P.info? te).isSome = true then (match move S x (n.toNat * sz P te) with
    | some r => K r (melOf x)
    | none => False) else False
  | _ => False
/-- Where part i of a struct or an array lies, and its cells. -/
def place (t : TypeId) (i : Nat) : Option (Nat × Nat) := match P.underlying t with
  | some (.struct fs) => (match fs[i]? with
    | some f => some (f.offset, sz P f.type)
    | none => none)
  | some (.array _ e) => some (i * sz P e, sz P e)
  | _ => none
def partType (t : TypeId) (i : Nat) : TypeId := match P.underlying t with
  | some (.struct fs) => (match fs[i]? with
    | some f => f.type
    | none => 0)
  | some (.array _ e) => e
  | some (.slice e) => e
  | _ => 0
def fillC (S : St) (t : TypeId) : List Pv → List (Nat × Operand) → Option (List Pv)
  | cs, [] => some cs
  | cs, (i, x) :: l => match place P t i, pure1 S (ev P S (partType P t i) x) with
    | some (off, n), some v => if v.cells.length = n ∧ off + n ≤ cs.length then fillC S t (splice cs off v.cells) l else none
    | _, _ => none
def fillE (S : St) (te : TypeId) (e : Ty) : List e.den → List (Nat × Operand) → Option (List e.den)
  | xs, [] => some xs
  | xs, (i, x) :: l => match pure1 S (ev P S te x) with
    | some v => (match packAll e v.cells with
      | some y => if i < xs.length then fillE S te e (xs.set i y) l else none
      | none => none)
    | none => none
def maxs (least : Bool) : List RV → Option Pv
  | [.p (.v (.v (.int k) x)), .p (.v (.v (.int k') y))] => if k = k' then some (.v (.int k) (bif least then (if (y : Int) < (x : Int) then (y : Int) else (x : Int)) else (if (y : Int) > (x : Int) then (y : Int) else (x : Int)))) else none
  | _ => none
def newBox (S : St) (d : Option Tmp) (t : TypeId) (cs : List RV) (rd : List Nat) (K : Eff → Prop) : Prop := match d with
  | some d => (match S.hp d with
    | none => K ⟨.ptr d 0, [(d, .box true t cs)], d :: rd⟩
    | some _ => False)
  | none => False
def appendK (S : St) (d : Option Tmp) (argTypes : List TypeId) (s x : RV) (K : Eff → Prop) : Prop :=
  match argTypes, s with
  | [t, t'], .p (.v (.nil e)) => (match P.underlying t, asRow S x with
    | some (.slice te), some p => (match castTy p.t (.slice e) p.x with
      | some ys => if t = t' ∧ ty P te = some e ∧ zeroOk P te e = true ∧ ((P.info? te).any (fun i => decide (0 < i.bytes ∧ i.bytes ≤ 65536 ∧ 0 < i.size))) = true then
          (((List.length ys : Nat) : Int) ≤ most ∧ newRow S d (.row te e ys) [] (heapOf x) K) else False
      | none => False)
    | _, _ => False)
  | [t, t'], .row k => (match P.underlying t, S.hp k, asRow S x with
    | some (.slice te), some (.row te' e xs), some p => (match castTy p.t (.slice e) p.x with
      | some ys => if t = t' ∧ te = te' ∧ zeroOk P te e = true ∧ ((P.info? te).any (fun i => decide (0 < i.bytes ∧ i.bytes ≤ 65536 ∧ 0 < i.size))) = true then
          (((xs.length + List.length ys : Nat) : Int) ≤ most ∧ newRow S d (.row te e (xs ++ ys)) [(k, .dead)] (k :: heapOf x) K) else False
      | none => False)
    | _, _, _ => False)
  | _, _ => False
def firstV : RV → Option V1
  | .p y => some y
  | _ => none
def capV : RV → Option Nat
  | .ptr k 0 => some k
  | _ => none
def opK (Γ : List Fe) (o : Oper) (S : St) (K : Eff → Prop) : Prop :=
  match o.op with
  | .move x => K ⟨ev P S o.type x, [], []⟩
  | .assign x => K ⟨ev P S o.type x, [], []⟩
  | .pick c a b => (match S.get (match c with | .tmp t => t | _ => 0), c with
    | .p (.v (.v .bool y)), .tmp _ => if (y : Bool) = true then K ⟨ev P S o.type a, [], []⟩ else K ⟨ev P S o.type b, [], []⟩
    | _, _ => False)
  | .alloc t => (match ty P t with
    | some e => if zeroOk P t e = true then newBox S o.dst t ((unpackZ e).map (fun p => .p (.v p))) [] K else False
    | none => if sz P t = 1 ∧ ((P.info? t).any (fun i => (i.zero).any (fun z => decide (z.cells.size = 1) && z.cells.all (·.oneCell')))) = true then newBox S o.dst t [.unk] [] K else False)
  | .box t x => (match toCells S (ev P S t x) with
    | some cs => newBox S o.dst t cs (heapOf (ev P S t x)) K
    | none => False)
  | .load t a => loadK P S t (ev P S 0 a) K
  | .store t a x => cond o.dst.isNone (storeK P S t (ev P S 0 a) (ev P S t x) K) False
  | .fieldAddr t x f => (match P.underlying t with
    | some (.struct fs) => (match fs[f]? with
      | some g => if sz P g.type = 0 then False else (match move S (ev P S 0 x) g.offset with
        | some r => K ⟨r, [], melOf (ev P S 0 x)⟩
        | none => False)
      | none => False)
    | _ => False)
  | .indexAddr t x i => (match intOfRV (ev P S 3 i) with
    | some n => indexK P S t (ev P S 0 x) n (fun r rd => K ⟨r, [], rd⟩)
    | none => False)
  | .extract x i => (match ev P S 0 x with
    | .tup xs => (match xs[i]? with
      | some y => K ⟨.p y, [], []⟩
      | none => False)
    | _ => False)
  | .binOp op xt x y yt => (match ev P S xt x, ev P S yt y with
    | .p (.agg a), .p (.agg b) => (match eqV P 8 xt (.agg a) (.agg b) with
      | some q => (match op with
        | .eql => K ⟨.p (.v (.v .bool q)), [], []⟩
        | .neq => K ⟨.p (.v (.v .bool (!q))), [], []⟩
        | _ => False)
      | none => False)
    | .p a, .p b => binK P op xt a b (fun p => K ⟨.p (.v p), [], []⟩)
    | _, _ => False)
  | .unOp op xt x => (match ev P S xt x with
    | .p a => unK op a (fun p => K ⟨.p (.v p), [], []⟩)
    | _ => False)
  | .convert s d x => (match P.underlying s, P.underlying d, ev P S s x with
    | some (.int _), some (.int k), .p (.v (.v (.int _) n)) => K ⟨.p (.v (.v (.int k) (k.wrap n))), [], []⟩
    | _, _, _ => False)
  | .build t parts => (match ty P t with
    | some e => if zeroOk P t e = true ∧ e.isAgg = true then (match fillC P S t (unpackZ e) parts.toList with
      | some cs => K ⟨.p (.agg cs), seals S (parts.toList.map (fun q => ev P S (partType P t q.1) q.2)), parts.toList.flatMap (fun q => heapOf (ev P S (partType P t q.1) q.2))⟩
      | none => False) else False
    | none => False)
  | .buildSlice t len parts => (match P.underlying t with
    | some (.slice te) => (match ty P te with
      | some e => if zeroOk P te e = true ∧ len * e.cells ≤ 16777216 ∧ len ≤ 16777216 then (match fillE P S te e (List.replicate len e.zero) parts.toList with
        | some xs => newRow S o.dst (.row te e xs) (seals S (parts.toList.map (fun q => ev P S te q.2))) (parts.toList.flatMap (fun q => heapOf (ev P S te q.2))) K
        | none => False) else False
      | none => False)
    | _ => False)
  | .makeSlice t (.tmp l) (.tmp c) => (match P.underlying t, intOfRV (S.get l) with
    | some (.slice te), some n => (match ty P te with
      | some e => if l = c ∧ zeroOk P te e = true ∧ ((P.info? te).any (fun i => decide (i.bytes ≤ 65536))) = true then ((0 ≤ n ∧ n ≤ most) ∧ newRow S o.dst (.row te e (List.replicate n.toNat e.zero)) [] [] K) else False
      | none => False)
    | _, _ => False)
  | .slice t x none (some h) none => (match P.underlying t, asRow S (ev P S t x), intOfRV (ev P S 3 h) with
    | some (.slice te), some (.v (.slice e) xs), some n => if szIs P te e.cells = true then ((0 ≤ n ∧ n ≤ ((List.length xs : Nat) : Int)) ∧ K ⟨.p (.v (.v (.slice e) (List.take n.toNat xs))), seals S [ev P S t x], heapOf (ev P S t x)⟩) else False
    | _, _, _ => False)
  | .index t x i => (match P.underlying t, ev P S t x, intOfRV (ev P S 3 i) with
    | some .string, .p (.v (.v .str s)), some n => (0 ≤ n ∧ n < ((ByteArray.size s : Nat) : Int)) ∧ K ⟨.p (.v (.v (.int .u8) (strByte s n))), [], []⟩
    | _, _, _ => False)
  | .nilCheck x => (match ev P S 0 x with
    | .ptr k o => K ⟨.ptr k o, [], []⟩
    | .cel p o => K ⟨.cel p o, [], []⟩
    | .clos f a c => K ⟨.clos f a c, [], []⟩
    | _ => False)
  | .makeFunc (.func f) first cap => (match allSome (first.toList.map (fun x => firstV (ev P S 0 x))), allSome (cap.toList.map (fun x => capV (ev P S 0 x))) with
    | some a, some c => K ⟨.clos f a c, [], []⟩
    | _, _ => False)
  | .call c =>
    let args := (c.args.toList.zip c.argTypes.toList).map (fun q => ev P S q.2 q.1)
    cond (Nat.ble c.args.size c.argTypes.size) (match c.callee with
    | .builtin .len => (match args, c.argTypes.toList with
      | [r], [t] => lenK P S t r (fun n => K ⟨.p (.v (.v (.int .i64) n)), [], heapOf r⟩)
      | _, _ => False)
    | .builtin .max => (match maxs false args with
      | some p => K ⟨.p (.v p), [], []⟩
      | none => False)
    | .builtin .min => (match maxs true args with
      | some p => K ⟨.p (.v p), [], []⟩
      | none => False)
    | .builtin .append => (match args with
      | [s, x] => appendK P S o.dst c.argTypes.toList s x K
      | _ => False)
    | .value f => (match ev P S 0 f with
      | .clos g first cap => callF Γ S o.dst g (first.map .p ++ args ++ cap.map (fun k => .ptr k 0)) K
      | _ => False)
    | _ => False) False
  | _ => False
end
end Go.Proofs.YtieeiiibamkbmaaGreat.Am
