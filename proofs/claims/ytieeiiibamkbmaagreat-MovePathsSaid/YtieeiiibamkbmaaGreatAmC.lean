/- The abstract machine's regions, points and runs. Conditions: none; these are definitions. -/
import Derived.Test.YtieeiiibamkbmaaGreatAmB
namespace Go.Proofs.YtieeiiibamkbmaaGreat.Am
open Go Go.RowKit

def opTmps (o : Oper) : List Nat := o.op.operands.toList.filterMap (fun | .tmp t => some t | _ => none)
/-- The register that a guard looks at. -/
def guardTmp (ops : List Oper) (o : Oper) : Option Nat := match o.guard with
  | some (j, _) => (match ops[j]? with
    | some q => q.dst
    | none => none)
  | none => none
def uses (ops : List Oper) (o : Oper) : List Nat := opTmps o ++ (guardTmp ops o).toList
/-- The registers of two operations of a region are apart. -/
def apartR (ops : List Oper) (a b : Oper) : Bool :=
  (match a.dst with
   | some d => !(uses ops b).contains d && !(b.dst == some d)
   | none => true) &&
  (match b.dst with
   | some d => !(uses ops a).contains d
   | none => true)
/-- What one operation of a run has touched: its number, the blocks read, the blocks written. -/
structure Ft where
  i : Nat
  rd : List Nat
  wr : List Nat
def disj (a b : List Nat) : Bool := a.all (fun k => !b.contains k)
def apartH (a b : Ft) : Bool := disj a.wr b.wr && disj a.wr b.rd && disj b.wr a.rd
/-- Operation j may be next: each earlier one of the run is ordered before it, or is apart from it. -/
def mayNext (ops : List Oper) (bef : List Nat) (hist : List Ft) (f : Ft) : Bool :=
  hist.all (fun g => (bef.getD f.i 0).testBit g.i || (apartH g f && (match ops[g.i]?, ops[f.i]? with
    | some a, some b => apartR ops a b
    | _, _ => false)))
section
variable (P : Program)
def St.app (S : St) (d : Option Tmp) (e : Eff) : St :=
  ⟨match d with
    | some d => (d, e.v) :: S.regs
    | none => S.regs, e.hp.map (fun q => (q.1, some q.2)) ++ S.heap⟩
/-- A guard: is the operation wanted? The guard's register becomes a literal. -/
def guardK (ops : List Oper) (o : Oper) (S : St) (K : Bool → St → Prop) : Prop := match o.guard with
  | none => K true S
  | some (j, want) => (match ops[j]? with
    | some q => (match q.dst with
      | some d => (match S.get d with
        | .p (.v (.v .bool b)) => if (b : Bool) = true then K want (S.set d (.p (.v (.v .bool true)))) else K (!want) (S.set d (.p (.v (.v .bool false))))
        | .und => K false S
        | _ => False)
      | none => False)
    | none => False)
def dstOk (nt : Nat) (o : Oper) : Bool := match o.dst with
  | some d => Nat.blt d nt
  | none => true
def noEff : Eff := ⟨.und, [], []⟩
/-- The operations that one of a drawn region waits for stand before it. -/
def edgesOk (o : Oper) (i : Nat) : Bool := o.after.toList.all (fun e => !Region.binds .any e || Nat.blt e.on i)
/-- The operations of a region, in the text's order. draw: each two that are not ordered must be apart. -/
def opsK (Γ : List Fe) (nt : Nat) (ops : List Oper) (bef : List Nat) (draw : Bool) : List Oper → Nat → List Ft → St → (St → Prop) → Prop
  | [], _, _, S, K => K S
  | o :: l, i, hist, S, K => cond (dstOk nt o && (!draw || edgesOk o i)) (guardK ops o S (fun w S =>
      cond w
        (opK P Γ o S (fun e =>
          cond (!draw || mayNext ops bef hist ⟨i, e.rd, e.hp.map (·.1)⟩)
            (opsK Γ nt ops bef draw l (i + 1) (⟨i, e.rd, e.hp.map (·.1)⟩ :: hist) (S.app o.dst e) K) False))
        (cond (!draw || mayNext ops bef hist ⟨i, [], []⟩)
            (opsK Γ nt ops bef draw l (i + 1) (⟨i, [], []⟩ :: hist) (S.app o.dst noEff) K) False))) False
end
/-! Points -/
abbrev Path := List Nat
def child : Code → Nat → Code
  | .seq a _, 0 => a
  | .seq _ b, _ => b
  | .cond _ a _, 0 => a
  | .cond _ _ b, _ => b
  | .block _ c, _ => c
  | .loop c, _ => c
  | c, _ => c
def sub (c : Code) : Path → Code
  | [] => c
  | d :: p => child (sub c p) d
def todoOf (c : Code) : Path → List Item
  | [] => []
  | d :: p => match sub c p, d with
    | .seq _ b, 0 => .code b :: todoOf c p
    | .block id _, _ => .inBlock id :: todoOf c p
    | .loop b, _ => .inLoop b :: todoOf c p
    | _, _ => todoOf c p
/-- The point behind a point; none: the function's end. -/
def after (c : Code) : Path → Option Path
  | [] => none
  | d :: p => match sub c p, d with
    | .seq _ _, 0 => some (1 :: p)
    | .loop _, _ => some (0 :: p)
    | _, _ => after c p
/-- The point behind a block around a point. -/
def outOf (c : Code) (id : Nat) : Path → Option (Option Path)
  | [] => none
  | _ :: p => match sub c p with
    | .block id' _ => bif Nat.beq id' id then some (after c p) else outOf c id p
    | _ => outOf c id p
/-! States by slots -/
inductive Slot where
  /-- a pure value -/
  | reg (t : Nat) (e : Ty)
  /-- a pointer or a function value that is known -/
  | ref (t : Nat) (r : RV)
  /-- a row of the call's own; its number is the register's -/
  | row (t : Nat) (te : TypeId) (e : Ty)
  /-- a variable of the call's own, of a pure type -/
  | box (w : Bool) (k : Nat) (t : TypeId) (e : Ty)
  /-- one whose cells are known -/
  | boxr (w : Bool) (k : Nat) (t : TypeId) (cs : List RV)
  /-- a variable: pure cells (m of them), a row in one cell (its number is r), pure cells -/
  | boxm (k : Nat) (t : TypeId) (a : Ty) (r : Nat) (te : TypeId) (e : Ty) (b : Ty)
  /-- a function value with a receiver -/
  | fn (t : Nat) (f : FuncId) (e : Ty)
@[reducible] def sden : List Slot → Type
  | [] => Unit
  | .reg _ e :: l => e.den × sden l
  | .ref _ _ :: l => sden l
  | .row _ _ e :: l => List e.den × sden l
  | .box _ _ _ e :: l => e.den × sden l
  | .boxr _ _ _ _ :: l => sden l
  | .boxm _ _ a _ _ e b :: l => a.den × List e.den × b.den × sden l
  | .fn _ _ e :: l => e.den × sden l
def encS : (l : List Slot) → sden l → St
  | [], _ => ⟨[], []⟩
  | .reg t e :: l, x => (encS l x.2).set t (.p (V1.of e x.1))
  | .ref t r :: l, x => (encS l x).set t r
  | .row t te e :: l, x => ((encS l x.2).set t (.row t)).put t (.row te e x.1)
  | .box w k t e :: l, x => (encS l x.2).put k (.box w t ((unpack e x.1).map (fun p => .p (.v p))))
  | .boxr w k t cs :: l, x => (encS l x).put k (.box w t cs)
  | .boxm k t a r te e b :: l, x => ((encS l x.2.2.2).put k (.box true t ((unpack a x.1).map (fun p => .p (.v p)) ++ .row r :: (unpack b x.2.2.1).map (fun p => .p (.v p))))).put r (.row te e x.2.1)
  | .fn t f e :: l, x => (encS l x.2).set t (.clos f [V1.of e x.1] [])
/-- The numbers of the blocks that these slots keep. -/
def keeps (S : St) : List Slot → List Nat
  | [] => []
  | .row t _ _ :: l => (match S.get t with
    | .row k => k :: keeps S l
    | _ => keeps S l)
  | .box _ k _ _ :: l => k :: keeps S l
  | .boxr _ k _ _ :: l => k :: keeps S l
  | .boxm k _ a _ _ _ _ :: l => (match S.hp k with
    | some (.box _ _ cs) => (match cs[a.cells]? with
      | some (.row j) => k :: j :: keeps S l
      | _ => k :: keeps S l)
    | _ => k :: keeps S l)
  | _ :: l => keeps S l
/-- The rows that these slots read as pure values. -/
def reads (S : St) : List Slot → List Nat
  | [] => []
  | .reg t _ :: l => (match S.get t with
    | .row k => k :: reads S l
    | _ => reads S l)
  | _ :: l => reads S l
/-- The numbers under which they are kept. -/
def names : List Slot → List Nat
  | [] => []
  | .row t _ _ :: l => t :: names l
  | .box _ k _ _ :: l => k :: names l
  | .boxr _ k _ _ :: l => k :: names l
  | .boxm k _ _ r _ _ _ :: l => k :: r :: names l
  | _ :: l => names l
def regsOf : List Slot → List Nat
  | [] => []
  | .reg t _ :: l => t :: regsOf l
  | .ref t _ :: l => t :: regsOf l
  | .row t _ _ :: l => t :: regsOf l
  | .fn t _ _ :: l => t :: regsOf l
  | _ :: l => regsOf l
/-- The numbers that the slots' own references name. -/
def slotRefs : List Slot → List Nat
  | [] => []
  | .ref _ r :: l => refs1 r ++ slotRefs l
  | .boxr _ _ _ cs :: l => cs.flatMap refs1 ++ slotRefs l
  | _ :: l => slotRefs l
def nodupB : List Nat → Bool
  | [] => true
  | k :: l => !l.contains k && nodupB l
def decS1 (S : St) : (l : List Slot) → Option (sden l)
  | [] => some ()
  | .reg t e :: l => (match pure1 S (S.get t) with
    | some v => (match v.to e, decS1 S l with
      | some x, some y => some (x, y)
      | _, _ => none)
    | none => none)
  | .ref t r :: l => bif sameRef r (S.get t) then decS1 S l else none
  | .row t te e :: l => (match S.get t with
    | .row k => (match S.hp k with
      | some (.row te' e' xs) => (match castTy (.slice e') (.slice e) xs, decS1 S l with
        | some x, some y => bif Nat.beq te te' then some (x, y) else none
        | _, _ => none)
      | _ => none)
    | .p (.v (.nil e')) => (match decS1 S l with
      | some y => bif decide (e = e') then some ([], y) else none
      | none => none)
    | _ => none)
  | .box w k t e :: l => (match S.hp k with
    | some (.box w' t' cs) => (match pvs S cs with
      | some ps => (match packAll e ps, decS1 S l with
        | some x, some y => bif Nat.beq t t' && w == w' then some (x, y) else none
        | _, _ => none)
      | none => none)
    | _ => none)
  | .boxr w k t cs :: l => (match S.hp k with
    | some (.box w' t' cs') => bif Nat.beq t t' && w == w' && sameRefs cs cs' then decS1 S l else none
    | _ => none)
  | .boxm k t a _ te e b :: l => (match S.hp k with
    | some (.box true t' cs) => (match pvs S (cs.take a.cells), rowAt S te e (cs[a.cells]?), pvs S (cs.drop (a.cells + 1)), decS1 S l with
      | some ps, some xs, some qs, some y => (match packAll a ps, packAll b qs with
        | some u, some v => bif Nat.beq t t' then some (u, xs, v, y) else none
        | _, _ => none)
      | _, _, _, _ => none)
    | _ => none)
  | .fn t f e :: l => (match S.get t with
    | .clos g [v] [] => (match v.to e, decS1 S l with
      | some x, some y => bif Nat.beq f g then some (x, y) else none
      | _, _ => none)
    | _ => none)
where
  rowAt (S : St) (te : TypeId) (e : Ty) : Option RV → Option (List e.den)
    | some (.row k) => (match S.hp k with
      | some (.row te' e' xs) => (match castTy (.slice e') (.slice e) xs with
        | some x => bif Nat.beq te te' then some x else none
        | none => none)
      | _ => none)
    | some (.p (.v (.nil e'))) => bif decide (e = e') then some [] else none
    | _ => none
def boxRows (S : St) : List Slot → List Nat
  | [] => []
  | .box _ k _ _ :: l => (match S.hp k with
    | some (.box _ _ cs) => cs.flatMap heapOf ++ boxRows S l
    | _ => boxRows S l)
  | .boxm k _ a _ _ _ _ :: l => (match S.hp k with
    | some (.box _ _ cs) => (cs.take a.cells).flatMap heapOf ++ (cs.drop (a.cells + 1)).flatMap heapOf ++ boxRows S l
    | _ => boxRows S l)
  | _ :: l => boxRows S l
/-- The numbers of the variables among these slots. -/
def boxNames : List Slot → List Nat
  | [] => []
  | .box _ k _ _ :: l => k :: boxNames l
  | .boxr _ k _ _ :: l => k :: boxNames l
  | .boxm k _ _ _ _ _ _ :: l => k :: boxNames l
  | _ :: l => boxNames l
/-- The rows in variables have large numbers, the others small ones. -/
def far : List Slot → Bool
  | [] => true
  | .boxm _ _ _ r _ _ _ :: l => Nat.ble 2000 r && far l
  | .row t _ _ :: l => Nat.blt t 1000 && far l
  | _ :: l => far l
/-- A state read by slots: nothing that is kept is read as a pure value too. -/
def decS (l : List Slot) (S : St) : Option (sden l) :=
  bif nodupB (keeps S l) && nodupB (names l) && disj (keeps S l) (reads S l ++ boxRows S l) && (slotRefs l).all (fun k => (boxNames l).contains k) && nodupB (regsOf l) && far l then decS1 S l else none
/-- How a stretch of a run ends: at a point, or by returning. -/
inductive Out where
  | stop (p : Path) (S : St)
  | ret (S : St)
structure Orc where
  p : Path
  sl : List Slot
  X : sden sl → (Out → Prop) → Prop
def Orc.run (o : Orc) (S : St) (Φ : Out → Prop) : Prop := match decS o.sl S with
  | some x => o.X x Φ
  | none => False
/-- The stops at this path, if there are any: the first that fits. -/
def findStop (S : St) : List (Path × List Slot) → Path → Option (List Slot)
  | [], _ => none
  | (q, s) :: l, p => bif q == p && (decS s S).isSome then some s else findStop S l p
def findOrc (S : St) : List Orc → Path → Option Orc
  | [], _ => none
  | o :: l, p => bif o.p == p && (decS o.sl S).isSome then some o else findOrc S l p
structure Ctx where
  P : Program
  body : Code
  nt : Nat
  Γ : List Fe
  rsl : List Slot
def Ctx.fin (C : Ctx) (S : St) (Φ : Out → Prop) : Prop := match decS C.rsl S with
  | some y => Φ (.ret (encS C.rsl y))
  | none => False
def run (C : Ctx) (Λ : List Orc) (stops : List (Path × List Slot)) : Nat → Bool → Path → St → (Out → Prop) → Prop
  | 0, _, _, _, _ => False
  | n + 1, first, p, S, Φ =>
    match (bif first then none else findStop S stops p) with
    | some sl => (match decS sl S with
      | some y => Φ (.stop p (encS sl y))
      | none => False)
    | none => match (bif first then none else findOrc S Λ p) with
      | some o => o.run S (fun oc => match oc with
        | .stop q S' => run C Λ stops n false q S' Φ
        | .ret S' => Φ (.ret S'))
      | none =>
        let next (S' : St) : Prop := match after C.body p with
          | some q => run C Λ stops n false q S' Φ
          | none => C.fin S' Φ
        match sub C.body p with
        | .skip => next S
        | .label _ => next S
        | .region _ ops draw => opsK C.P C.Γ C.nt ops.toList (Region.before ops).toList draw ops.toList 0 [] S next
        | .seq _ _ => run C Λ stops n false (0 :: p) S Φ
        | .cond (.tmp t) _ _ => (match S.get t with
          | .p (.v (.v .bool b)) => if (b : Bool) = true then run C Λ stops n false (0 :: p) S Φ else run C Λ stops n false (1 :: p) S Φ
          | _ => False)
        | .block _ _ => run C Λ stops n false (0 :: p) S Φ
        | .loop _ => run C Λ stops n false (0 :: p) S Φ
        | .exit id => (match outOf C.body id p with
          | some (some q) => run C Λ stops n false q S Φ
          | some none => C.fin S Φ
          | none => False)
        | .ret => C.fin S Φ
        | _ => False
/-! Functions -/
/-- A function's results in a state. -/
def resV (P : Program) (S : St) : ResultVar → Option V1
  | .tmp t => pure1 S (S.get t)
  | .cell a t => (match S.get a with
    | .ptr k off => (match S.hp k with
      | some (.box _ _ cs) => (match cutT P t cs off with
        | some l => (match pvs S l with
          | some ps => bif aggT P t then some (.agg ps) else (match ps with
            | [p] => some (.v p)
            | _ => none)
          | none => none)
        | none => none)
      | _ => none)
    | _ => none)
def decRs : (l : List Ty) → List V1 → Option (rden l)
  | [], [] => some ()
  | [a], [v] => v.to a
  | a :: b :: l, v :: vs => (match v.to a, decRs (b :: l) vs with
    | some x, some y => some (x, y)
    | _, _ => none)
  | _, _ => none
def decOuts (S : St) : (l : List BS) → Nat → Option (dens (oTys l))
  | [], _ => some ()
  | .val true t e :: l, k => (match S.hp k with
    | some (.box true t' cs) => (match pvs S cs with
      | some ps => (match packAll e ps, decOuts S l (k + 1) with
        | some a, some b => bif Nat.beq t t' then some (a, b) else none
        | _, _ => none)
      | none => none)
    | _ => none)
  | .val false _ _ :: l, k => decOuts S l (k + 1)
  | .lit _ _ :: l, k => decOuts S l (k + 1)
/-- The state at a function's entry. -/
def entryRegs : (l : List PS) → Nat → dens (valTys l) → List (Nat × RV)
  | [], _, _ => []
  | .val t :: l, i, x => (i, .p (V1.of t x.1)) :: entryRegs l (i + 1) x.2
  | .lit r :: l, i, x => (i, r) :: entryRegs l (i + 1) x
def entryHeap : (l : List BS) → Nat → dens (bTys l) → List (Nat × Option Blk)
  | [], _, _ => []
  | .val w t e :: l, k, x => (k, some (.box w t ((unpack e x.1).map (fun p => .p (.v p))))) :: entryHeap l (k + 1) x.2
  | .lit t cs :: l, k, x => (k, some (.box false t cs)) :: entryHeap l (k + 1) x
def entry (ps : List PS) (bs : List BS) (x : dens (valTys ps)) (y : dens (bTys bs)) : St := ⟨entryRegs ps 0 x, entryHeap bs 1000 y⟩
/-- What a run's end says of the function's results. -/
def retK (P : Program) (rvs : List ResultVar) (bs : List BS) (rs : List Ty) (K : rden rs → dens (oTys bs) → Prop) : Out → Prop
  | .stop _ _ => False
  | .ret S => (match allSome (rvs.map (resV P S)) with
    | some vs => (match decRs rs vs, decOuts S bs 1000 with
      | some r, some z => K r z
      | _, _ => False)
    | none => False)
end Go.Proofs.YtieeiiibamkbmaaGreat.Am
