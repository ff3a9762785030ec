/- The functions that the model stands in for. Conditions: none. -/
import Derived.Test.YtieeiiibamkbmaaGreatAmX0
import Derived.Laws.Externs
namespace Go.Proofs.YtieeiiibamkbmaaGreat.Am
open Go Go.RowKit
set_option linter.unusedVariables false

theorem entry3 {N : Nat → Prop} {gs : List Nat} {x : Int × Int × Int × Unit} {w : World} {vs : List Value} (hE : Enter w N gs [] (entry [.val (.int .u64), .val (.int .u64), .val (.int .u64)] [] x ()) vs) (hl : vs.length = 3) :
    vs = [.int .u64 x.1, .int .u64 x.2.1, .int .u64 x.2.2.1] := by
  match vs, hl with
  | [a, b, c], _ =>
    have h0 := hE.regs 0
    have h1 := hE.regs 1
    have h2 := hE.regs 2
    have e0 := int_of (W := w) (N := N) (k := .u64) (n := x.1) (u := a) h0
    have e1 := int_of (W := w) (N := N) (k := .u64) (n := x.2.1) (u := b) h1
    have e2 := int_of (W := w) (N := N) (k := .u64) (n := x.2.2.1) (u := c) h2
    rw [e0, e1, e2]
theorem left2 {f : FuncId} {ps : List PS} {sl : Bool} {X : _} {N : Nat → Prop} {gs : List Nat} {w : World} (a b : Int) : Left ⟨f, ps, [], [.int .u64, .int .u64], sl, none, X⟩ w w N gs (a, b) () (.tuple #[.int .u64 a, .int .u64 b]) :=
  ⟨Keep.refl _ _, fun _ => ⟨[.int .u64 a, .int .u64 b], rfl, ⟨rfl, rfl⟩, ⟨rfl, rfl⟩, trivial⟩, fun te h => (by cases h), fun j b h => by simp [encBs] at h⟩
theorem ok_bits_Add64 : FeOk Tryz.prog fe_bits_Add64 := by
  refine ⟨fun _ _ => rfl, fun x y K h => ⟨_, (), h.2, fun w N gs vs hE hl => .inr ⟨_, ?_, _, rfl, left2 _ _⟩⟩⟩
  obtain ⟨⟨h1, h2, h3, h4⟩, _⟩ := h
  have hv := entry3 (x := x) hE hl
  subst hv
  show (callFunc 200 #[.int .u64 x.1, .int .u64 x.2.1, .int .u64 x.2.2.1]).run Tryz.prog w = _
  rw [run_callFunc_extern Tryz.func200 (by kernel_rfl) (by kernel_rfl) (by kernel_rfl) (e := add64Entry) (by kernel_rfl), run_add64 _ _ _ h1 h2 h3 h4]
  rfl
def sub64Entry : Array Value → Sem Value := fun args => do
  let (x, y, b) ← Extern.MathBitsCarry.three "Sub64" args
  pure (Extern.MathBitsCarry.pair ((x + Extern.MathBitsCarry.m64 - y - b) % Extern.MathBitsCarry.m64) (if x < y + b then 1 else 0))
theorem run_sub64 {P : Program} (x y b : Nat) (hb : b ≤ 1) (w : World) :
    (sub64Entry #[.int .u64 x, .int .u64 y, .int .u64 b]).run P w =
      .ok (.tuple #[.int .u64 (((x + 18446744073709551616 - y - b) % 18446744073709551616 : Nat) : Int), .int .u64 ((if x < y + b then 1 else 0 : Nat) : Int)]) w := by
  have : b = 0 ∨ b = 1 := by omega
  rcases this with rfl | rfl <;> rfl
theorem ok_bits_Sub64 : FeOk Tryz.prog fe_bits_Sub64 := by
  refine ⟨fun _ _ => rfl, fun x y K h => ⟨_, (), h.2, fun w N gs vs hE hl => .inr ⟨_, ?_, _, rfl, left2 _ _⟩⟩⟩
  obtain ⟨⟨h1, h2, h5, h3, h4⟩, _⟩ := h
  have hv := entry3 (x := x) hE hl
  subst hv
  show (callFunc 201 #[.int .u64 x.1, .int .u64 x.2.1, .int .u64 x.2.2.1]).run Tryz.prog w = _
  rw [run_callFunc_extern Tryz.func201 (by kernel_rfl) (by kernel_rfl) (by kernel_rfl) (e := sub64Entry) (by kernel_rfl)]
  obtain ⟨X, hX⟩ := Int.eq_ofNat_of_zero_le h1
  obtain ⟨Y, hY⟩ := Int.eq_ofNat_of_zero_le h2
  obtain ⟨B, hB⟩ := Int.eq_ofNat_of_zero_le h3
  have hy : Y < 18446744073709551616 := by omega
  have hb : B ≤ 1 := by omega
  rw [hX, hY, hB]
  rw [run_sub64 X Y B hb]
  simp only [Result.andThen]
  have e1 : (((X + 18446744073709551616 - Y - B) % 18446744073709551616 : Nat) : Int) = ((X : Int) - Y - B) % 18446744073709551616 := by omega
  have e2 : ((if X < Y + B then 1 else 0 : Nat) : Int) = if (X : Int) - Y - B < 0 then 1 else 0 := by
    by_cases h : X < Y + B
    · rw [if_pos h, if_pos (by omega)]; rfl
    · rw [if_neg h, if_neg (by omega)]; rfl
  rw [e1, e2]
end Go.Proofs.YtieeiiibamkbmaaGreat.Am
