import Derived.Test.YtieeiiibamkbmaaGreatAmWG
import Derived.Test.YtieeiiibamkbmaaGreatProg
import Derived.Maps.Views
namespace Go.Proofs.YtieeiiibamkbmaaGreat.Am
set_option linter.unusedVariables false
set_option maxRecDepth 100000
open Go Go.RowKit

theorem hm : Tryz.prog.follows .mixedOrders = true := by kernel_rfl
theorem ok_nil {P : Program} : ∀ e ∈ ([] : List Fe), FeOk P e := fun e h => by cases h
theorem ok_cons {P : Program} {a : Fe} {l : List Fe} (h : FeOk P a) (hs : ∀ e ∈ l, FeOk P e) : ∀ e ∈ a :: l, FeOk P e := fun e he => by
  rcases List.mem_cons.1 he with rfl | he
  · exact h
  · exact hs e he
theorem orc_nil {C : Ctx} : ∀ o ∈ ([] : List Orc), OrcOk C o := fun e h => by cases h
theorem orc_cons {C : Ctx} {a : Orc} {l : List Orc} (h : OrcOk C a) (hs : ∀ o ∈ l, OrcOk C o) : ∀ o ∈ a :: l, OrcOk C o := fun o ho => by
  rcases List.mem_cons.1 ho with rfl | ho
  · exact h
  · exact hs o ho
noncomputable def bodyOf (f : Func) : Code := f.body.getD .skip
abbrev wI64 (x : Int) : Int := IntKind.i64.wrap x
abbrev wU64 (x : Int) : Int := IntKind.u64.wrap x
abbrev wI32 (x : Int) : Int := IntKind.i32.wrap x
abbrev wU32 (x : Int) : Int := IntKind.u32.wrap x
abbrev wU16 (x : Int) : Int := IntKind.u16.wrap x
abbrev wU8 (x : Int) : Int := IntKind.u8.wrap x
abbrev len {α : Type} (xs : List α) : Int := ((xs.length : Nat) : Int)
abbrev slen (s : ByteArray) : Int := ((s.size : Nat) : Int)
abbrev sNil : ByteArray := ⟨#[]⟩
abbrev sEq (x y : ByteArray) : Bool := x.toList == y.toList
abbrev bAnd (k : IntKind) (a b : Int) : Int := k.wrap (BitVec.ofInt k.bits a &&& BitVec.ofInt k.bits b).toNat
abbrev bOr (k : IntKind) (a b : Int) : Int := k.wrap (BitVec.ofInt k.bits a ||| BitVec.ofInt k.bits b).toNat
abbrev bXor (k : IntKind) (a b : Int) : Int := k.wrap (BitVec.ofInt k.bits a ^^^ BitVec.ofInt k.bits b).toNat
abbrev shL (k : IntKind) (x y : Int) : Int := k.wrap (x * 2 ^ (min (Int.toNat y) k.bits))
abbrev shR (k : IntKind) (x y : Int) : Int := Int.fdiv x (2 ^ (min (Int.toNat y) k.bits))
abbrev iMax (x y : Int) : Int := if y > x then y else x
abbrev iMin (x y : Int) : Int := if y < x then y else x
abbrev tBoundsError : Ty := .pair (.int .i64) (.pair (.int .i64) (.pair .bool (.int .u8)))
abbrev BoundsError := Int × Int × Bool × Int
def zBoundsError : BoundsError := tBoundsError.zero
abbrev tErrorAddressString : Ty := .pair .str (.int .u64)
abbrev ErrorAddressString := ByteArray × Int
def zErrorAddressString : ErrorAddressString := tErrorAddressString.zero
abbrev tFrac : Ty := .pair (.int .i64) (.int .i64)
abbrev Frac := Int × Int
def zFrac : Frac := tFrac.zero
abbrev tPart : Ty := .pair (.int .i64) tFrac
abbrev Part := Int × Frac
def zPart : Part := tPart.zero
abbrev tItem : Ty := .pair .str (.pair (.int .i64) (.pair (.int .i64) (.pair (.int .i64) tPart)))
abbrev Item := ByteArray × Int × Int × Int × Part
def zItem : Item := tItem.zero
abbrev tBrick : Ty := .pair .str tFrac
abbrev Brick := ByteArray × Frac
def zBrick : Brick := tBrick.zero
abbrev tSet_ : Ty := .pair .str (.pair (.int .i64) (.pair (.int .i64) (.pair (.int .i64) (.pair (.int .i64) (.pair (.slice (.int .i64)) (.pair (.int .i64) (.pair (.int .i64) (.pair (.int .i64) (.pair (.int .i64) (.pair (.int .i64) (.pair (.slice tItem) (.slice tBrick))))))))))))
abbrev Set_ := ByteArray × Int × Int × Int × Int × (List Int) × Int × Int × Int × Int × Int × (List Item) × (List Brick)
def zSet_ : Set_ := tSet_.zero
abbrev tRoof : Ty := .pair .str tPart
abbrev Roof := ByteArray × Part
def zRoof : Roof := tRoof.zero
abbrev tHouse : Ty := .pair .str (.pair (.int .i64) (.pair (.slice tSet_) (.slice tRoof)))
abbrev House := ByteArray × Int × (List Set_) × (List Roof)
def zHouse : House := tHouse.zero
abbrev tMove : Ty := .pair .str (.pair (.int .i64) tPart)
abbrev Move := ByteArray × Int × Part
def zMove : Move := tMove.zero
abbrev tCue : Ty := .pair .str (.pair .str (.pair (.int .i64) (.pair (.int .i64) (.pair (.slice tMove) tFrac))))
abbrev Cue := ByteArray × ByteArray × Int × Int × (List Move) × Frac
def zCue : Cue := tCue.zero
abbrev tSheet : Ty := .pair (.slice tCue) (.slice (.pair .str .str))
abbrev Sheet := (List Cue) × (List (ByteArray × ByteArray))
def zSheet : Sheet := tSheet.zero
abbrev tBegin : Ty := .pair .str (.int .i64)
abbrev Begin := ByteArray × Int
def zBegin : Begin := tBegin.zero
abbrev tU : Ty := .pair (.int .u64) (.int .u64)
abbrev U := Int × Int
def zU : U := tU.zero
abbrev tPiece3 : Ty := .pair tFrac (.pair tFrac (.pair tFrac tFrac))
abbrev Piece3 := Frac × Frac × Frac × Frac
def zPiece3 : Piece3 := tPiece3.zero
abbrev tPlan : Ty := .pair (.slice (.slice (.int .i64))) (.pair (.slice (.int .i64)) (.slice (.int .i64)))
abbrev Plan := (List (List Int)) × (List Int) × (List Int)
def zPlan : Plan := tPlan.zero
abbrev tSums : Ty := .one (.int .i64)
abbrev Sums := Int
def zSums : Sums := tSums.zero
abbrev tTask : Ty := .pair .str (.pair (.int .i64) (.pair (.int .i64) (.pair (.int .i64) (.slice .str))))
abbrev Task := ByteArray × Int × Int × Int × (List ByteArray)
def zTask : Task := tTask.zero
abbrev tErrorString : Ty := .one .str
abbrev ErrorString := ByteArray
def zErrorString : ErrorString := tErrorString.zero
def atBrick (xs : List Brick) (n : Int) : Brick := xs.getD n.toNat (Ty.zero tBrick)
def atFrac (xs : List Frac) (n : Int) : Frac := xs.getD n.toNat (Ty.zero tFrac)
def atI (xs : List Int) (n : Int) : Int := xs.getD n.toNat (Ty.zero (.int .i64))
def atItem (xs : List Item) (n : Int) : Item := xs.getD n.toNat (Ty.zero tItem)
def atPiece3 (xs : List Piece3) (n : Int) : Piece3 := xs.getD n.toNat (Ty.zero tPiece3)
def atRoof (xs : List Roof) (n : Int) : Roof := xs.getD n.toNat (Ty.zero tRoof)
def atSet_ (xs : List Set_) (n : Int) : Set_ := xs.getD n.toNat (Ty.zero tSet_)

/-- How many names there are, each counted once; are there fewer than the list has? -/
def nd (l : List ByteArray) : Nat := ((l.map (fun s => Lit.string s.data.toList)).foldl Maps.addKey []).length
def twiceB (l : List ByteArray) : Bool := decide ((nd l : Int) < ((l.length : Nat) : Int))
def twice_Item (l : List (ByteArray × Int × Int × Int × Int × Int × Int)) (K : Bool → Prop) : Prop := (∀ x ∈ l, ByteArray.size x.1 ≤ maxLen) ∧ K (twiceB (l.map (fun x => x.1)))
def twice_Brick (l : List (ByteArray × Int × Int)) (K : Bool → Prop) : Prop := (∀ x ∈ l, ByteArray.size x.1 ≤ maxLen) ∧ K (twiceB (l.map (fun x => x.1)))
def bits_Add64 (x y c : Int) (K : Int × Int → Prop) : Prop := (0 ≤ x ∧ 0 ≤ y ∧ 0 ≤ c ∧ c ≤ 1) ∧ K ((x + y + c) % 18446744073709551616, (x + y + c) / 18446744073709551616)
def bits_Sub64 (x y c : Int) (K : Int × Int → Prop) : Prop := (0 ≤ x ∧ 0 ≤ y ∧ y < 18446744073709551616 ∧ 0 ≤ c ∧ c ≤ 1) ∧ K ((x - y - c) % 18446744073709551616, if x - y - c < 0 then 1 else 0)
noncomputable def fe_twice_Item : Fe := ⟨264, [.val (.slice tItem), .lit (.clos 265 [] [])], [], [.bool], false, none, fun x y K => twice_Item x.1 (fun r => K r (()))⟩
noncomputable def fe_twice_Brick : Fe := ⟨271, [.val (.slice tBrick), .lit (.clos 272 [] [])], [], [.bool], false, none, fun x y K => twice_Brick x.1 (fun r => K r (()))⟩
noncomputable def fe_bits_Add64 : Fe := ⟨200, [.val (.int .u64), .val (.int .u64), .val (.int .u64)], [], [.int .u64, .int .u64], false, none, fun x y K => bits_Add64 x.1 x.2.1 x.2.2.1 (fun r => K r (()))⟩
noncomputable def fe_bits_Sub64 : Fe := ⟨201, [.val (.int .u64), .val (.int .u64), .val (.int .u64)], [], [.int .u64, .int .u64], false, none, fun x y K => bits_Sub64 x.1 x.2.1 x.2.2.1 (fun r => K r (()))⟩
end Go.Proofs.YtieeiiibamkbmaaGreat.Am
