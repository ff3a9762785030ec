import Derived.Test.YtieeiiibamkbmaaGreatAmXT
import Derived.Test.YtieeiiibamkbmaaGreatProg
namespace Go.Proofs.YtieeiiibamkbmaaGreat.Am
set_option linter.unusedVariables false
set_option maxRecDepth 100000
open Go Go.RowKit
/-! loftblock/loftblocklaw35.example -/
def law35_example_s0 : List Slot := [.ref 0 (.ptr 0 0), .box true 0 25 tHouse, .ref 1 (.ptr 1 0), .box true 1 27 tMove]
noncomputable def law35_example_C : Ctx := ⟨Tryz.prog, bodyOf Tryz.f70, 9, [], law35_example_s0⟩
theorem law35_example_Γ : ∀ e ∈ law35_example_C.Γ, FeOk law35_example_C.P e := ok_nil
def law35_example (K : (House × Move) → Prop) : Prop := (K (((⟨#[104]⟩ : ByteArray), 5000, [((⟨#[115]⟩ : ByteArray), 0, 0, 5000, 1000, [0, 1000], 0, 0, 1, 1, 0, [], [])], []), ((⟨#[115]⟩ : ByteArray), 1000, 100, 50, 100)))
noncomputable def fe_law35_example : Fe := ⟨70, [], [], [tHouse, tMove], true, none, fun x y K => law35_example (fun r => K r (()))⟩
theorem law35_example_eq (x) (y) (K) : fe_law35_example.X x y K = run law35_example_C [] [] 4000 true [] (entry [] [] x y) (retK Tryz.prog [.cell 0 25, .cell 1 27] [] [tHouse, tMove] K) := by kernel_rfl
theorem ok_law35_example : FeOk Tryz.prog fe_law35_example := fe_of_run (C := law35_example_C) hm law35_example_Γ orc_nil (fn := Tryz.f70) Tryz.func70 rfl rfl (by kernel_rfl) law35_example_eq
/-! loftblock/decimal.letter -/
def decimal_letter_s0 : List Slot := [.reg 2 .bool]
noncomputable def decimal_letter_C : Ctx := ⟨Tryz.prog, bodyOf Tryz.f238, 17, [], decimal_letter_s0⟩
theorem decimal_letter_Γ : ∀ e ∈ decimal_letter_C.Γ, FeOk decimal_letter_C.P e := ok_nil
def decimal_letter (c_0 : Int) (K : Bool → Prop) : Prop := (if (decide (c_0 ≥ 97)) = true then (if (decide (c_0 ≤ 122)) = true then (K true) else (if (decide (c_0 ≥ 65)) = true then (K (decide (c_0 ≤ 90))) else (K false))) else (if (decide (c_0 ≥ 65)) = true then (K (decide (c_0 ≤ 90))) else (K false)))
noncomputable def fe_decimal_letter : Fe := ⟨238, [.val (.int .u8)], [], [.bool], false, none, fun x y K => decimal_letter x.1 (fun r => K r (()))⟩
theorem decimal_letter_eq (x) (y) (K) : fe_decimal_letter.X x y K = run decimal_letter_C [] [] 4000 true [] (entry [.val (.int .u8)] [] x y) (retK Tryz.prog [.tmp 2] [] [.bool] K) := by kernel_rfl
theorem ok_decimal_letter : FeOk Tryz.prog fe_decimal_letter := fe_of_run (C := decimal_letter_C) hm decimal_letter_Γ orc_nil (fn := Tryz.f238) Tryz.func238 rfl rfl (by kernel_rfl) decimal_letter_eq
/-! loftblock/decimal.digit -/
def decimal_digit_s0 : List Slot := [.reg 2 .bool]
noncomputable def decimal_digit_C : Ctx := ⟨Tryz.prog, bodyOf Tryz.f262, 9, [], decimal_digit_s0⟩
theorem decimal_digit_Γ : ∀ e ∈ decimal_digit_C.Γ, FeOk decimal_digit_C.P e := ok_nil
def decimal_digit (c_0 : Int) (K : Bool → Prop) : Prop := (if (decide (c_0 ≥ 48)) = true then (K (decide (c_0 ≤ 57))) else (K false))
noncomputable def fe_decimal_digit : Fe := ⟨262, [.val (.int .u8)], [], [.bool], false, none, fun x y K => decimal_digit x.1 (fun r => K r (()))⟩
theorem decimal_digit_eq (x) (y) (K) : fe_decimal_digit.X x y K = run decimal_digit_C [] [] 4000 true [] (entry [.val (.int .u8)] [] x y) (retK Tryz.prog [.tmp 2] [] [.bool] K) := by kernel_rfl
theorem ok_decimal_digit : FeOk Tryz.prog fe_decimal_digit := fe_of_run (C := decimal_digit_C) hm decimal_digit_Γ orc_nil (fn := Tryz.f262) Tryz.func262 rfl rfl (by kernel_rfl) decimal_digit_eq
/-! loftblock/decimal.word -/
def decimal_word_s0 : List Slot := [.reg 2 (.int .i64)]
noncomputable def decimal_word_C : Ctx := ⟨Tryz.prog, bodyOf Tryz.f239, 29, [fe_decimal_letter, fe_decimal_digit], decimal_word_s0⟩
theorem decimal_word_Γ : ∀ e ∈ decimal_word_C.Γ, FeOk decimal_word_C.P e := (ok_cons ok_decimal_letter (ok_cons ok_decimal_digit ok_nil))
def decimal_word_s1 : List Slot := [.reg 3 (.int .i64)]
def decimal_word_s2 : List Slot := [.reg 0 .str, .reg 3 (.int .i64)]
def decimal_word_l2N (k0 : Int → Prop) : Nat → ByteArray → Int → Prop
  | 0, _, _ => False
  | n + 1, s_0, i_3 => (if (decide (i_3 < (slen s_0))) = true then ((0 ≤ i_3 ∧ i_3 < slen s_0) ∧ (decimal_letter (strByte s_0 i_3) (fun r1 => (if r1 = true then (decimal_word_l2N k0 n s_0 (wI64 (i_3 + 1))) else ((0 ≤ i_3 ∧ i_3 < slen s_0) ∧ (decimal_digit (strByte s_0 i_3) (fun r2 => (if r2 = true then (decimal_word_l2N k0 n s_0 (wI64 (i_3 + 1))) else ((0 ≤ i_3 ∧ i_3 < slen s_0) ∧ (if ((strByte s_0 i_3) == 95) = true then (decimal_word_l2N k0 n s_0 (wI64 (i_3 + 1))) else (k0 i_3))))))))))) else (k0 i_3))
def decimal_word_l2 (s_0 : ByteArray) (i_3 : Int) (k0 : Int → Prop) : Prop := ∃ n, decimal_word_l2N k0 n s_0 i_3
noncomputable def decimal_word_n_l2 (n : Nat) : Orc := ⟨[0, 0, 0, 1, 1], decimal_word_s2, fun x Φ => decimal_word_l2N (fun i_3 => Φ (.stop [1, 1, 1] (encS decimal_word_s1 (i_3, ())))) n x.1 x.2.1⟩
noncomputable def decimal_word_o_l2 : Orc := ⟨[0, 0, 0, 1, 1], decimal_word_s2, fun x Φ => decimal_word_l2 x.1 x.2.1 (fun i_3 => Φ (.stop [1, 1, 1] (encS decimal_word_s1 (i_3, ()))))⟩
theorem decimal_word_l2_eq (n : Nat) (x : sden decimal_word_s2) (Φ : Out → Prop) : (decimal_word_n_l2 (n + 1)).X x Φ = run decimal_word_C [decimal_word_n_l2 n] [([1, 1, 1], decimal_word_s1)] 4000 true [0, 0, 0, 1, 1] (encS decimal_word_s2 x) Φ := by kernel_rfl
theorem decimal_word_l2_ok : OrcOk decimal_word_C decimal_word_o_l2 := orc_loop hm decimal_word_Γ (on := decimal_word_n_l2) orc_nil (fun x Φ h => h) decimal_word_l2_eq (fun x Φ ⟨n, h⟩ => ⟨n, x, h, rfl, rfl⟩)
def decimal_word (s_0 : ByteArray) (K : Int → Prop) : Prop := (decimal_word_l2 s_0 0 (fun i_3 => (K i_3)))
noncomputable def fe_decimal_word : Fe := ⟨239, [.val .str], [], [.int .i64], false, none, fun x y K => decimal_word x.1 (fun r => K r (()))⟩
theorem decimal_word_eq (x) (y) (K) : fe_decimal_word.X x y K = run decimal_word_C [decimal_word_o_l2] [] 4000 true [] (entry [.val .str] [] x y) (retK Tryz.prog [.tmp 2] [] [.int .i64] K) := by kernel_rfl
theorem ok_decimal_word : FeOk Tryz.prog fe_decimal_word := fe_of_run (C := decimal_word_C) hm decimal_word_Γ (orc_cons decimal_word_l2_ok orc_nil) (fn := Tryz.f239) Tryz.func239 rfl rfl (by kernel_rfl) decimal_word_eq
/-! loftblock/decimal.IsName -/
def decimal_IsName_s0 : List Slot := [.reg 2 .bool]
noncomputable def decimal_IsName_C : Ctx := ⟨Tryz.prog, bodyOf Tryz.f194, 22, [fe_decimal_letter, fe_decimal_word], decimal_IsName_s0⟩
theorem decimal_IsName_Γ : ∀ e ∈ decimal_IsName_C.Γ, FeOk decimal_IsName_C.P e := (ok_cons ok_decimal_letter (ok_cons ok_decimal_word ok_nil))
def decimal_IsName (s_0 : ByteArray) (K : Bool → Prop) : Prop := (if (!(sEq s_0 sNil)) = true then (if (decide ((slen s_0) ≤ 20)) = true then (((0 : Int) ≤ 0 ∧ 0 < slen s_0) ∧ (decimal_letter (strByte s_0 0) (fun r1 => (if r1 = true then (decimal_word s_0 (fun r2 => (K (r2 == (slen s_0))))) else (K false))))) else (K false)) else (K false))
noncomputable def fe_decimal_IsName : Fe := ⟨194, [.val .str], [], [.bool], false, none, fun x y K => decimal_IsName x.1 (fun r => K r (()))⟩
theorem decimal_IsName_eq (x) (y) (K) : fe_decimal_IsName.X x y K = run decimal_IsName_C [] [] 4000 true [] (entry [.val .str] [] x y) (retK Tryz.prog [.tmp 2] [] [.bool] K) := by kernel_rfl
theorem ok_decimal_IsName : FeOk Tryz.prog fe_decimal_IsName := fe_of_run (C := decimal_IsName_C) hm decimal_IsName_Γ orc_nil (fn := Tryz.f194) Tryz.func194 rfl rfl (by kernel_rfl) decimal_IsName_eq
/-! loftblock/grid.isName -/
def grid_isName_s0 : List Slot := [.reg 2 .bool]
noncomputable def grid_isName_C : Ctx := ⟨Tryz.prog, bodyOf Tryz.f240, 5, [fe_decimal_IsName], grid_isName_s0⟩
theorem grid_isName_Γ : ∀ e ∈ grid_isName_C.Γ, FeOk grid_isName_C.P e := (ok_cons ok_decimal_IsName ok_nil)
def grid_isName (s_0 : ByteArray) (K : Bool → Prop) : Prop := (decimal_IsName s_0 (fun r1 => (K r1)))
noncomputable def fe_grid_isName : Fe := ⟨240, [.val .str], [], [.bool], false, none, fun x y K => grid_isName x.1 (fun r => K r (()))⟩
theorem grid_isName_eq (x) (y) (K) : fe_grid_isName.X x y K = run grid_isName_C [] [] 4000 true [] (entry [.val .str] [] x y) (retK Tryz.prog [.tmp 2] [] [.bool] K) := by kernel_rfl
theorem ok_grid_isName : FeOk Tryz.prog fe_grid_isName := fe_of_run (C := grid_isName_C) hm grid_isName_Γ orc_nil (fn := Tryz.f240) Tryz.func240 rfl rfl (by kernel_rfl) grid_isName_eq
/-! loftblock/grid.within -/
def grid_within_s0 : List Slot := [.reg 2 .bool]
noncomputable def grid_within_C : Ctx := ⟨Tryz.prog, bodyOf Tryz.f241, 9, [], grid_within_s0⟩
theorem grid_within_Γ : ∀ e ∈ grid_within_C.Γ, FeOk grid_within_C.P e := ok_nil
def grid_within (n_0 : Int) (K : Bool → Prop) : Prop := (if (decide (n_0 ≥ 0)) = true then (K (decide (n_0 ≤ 1048576))) else (K false))
noncomputable def fe_grid_within : Fe := ⟨241, [.val (.int .i64)], [], [.bool], false, none, fun x y K => grid_within x.1 (fun r => K r (()))⟩
theorem grid_within_eq (x) (y) (K) : fe_grid_within.X x y K = run grid_within_C [] [] 4000 true [] (entry [.val (.int .i64)] [] x y) (retK Tryz.prog [.tmp 2] [] [.bool] K) := by kernel_rfl
theorem ok_grid_within : FeOk Tryz.prog fe_grid_within := fe_of_run (C := grid_within_C) hm grid_within_Γ orc_nil (fn := Tryz.f241) Tryz.func241 rfl rfl (by kernel_rfl) grid_within_eq
/-! loftblock/grid.Valid$1 -/
def grid_Valid_1_s0 : List Slot := [.reg 3 .bool]
noncomputable def grid_Valid_1_C : Ctx := ⟨Tryz.prog, bodyOf Tryz.f243, 9, [], grid_Valid_1_s0⟩
theorem grid_Valid_1_Γ : ∀ e ∈ grid_Valid_1_C.Γ, FeOk grid_Valid_1_C.P e := ok_nil
def grid_Valid_1 (x_0 : Roof) (b0 : Roof) (K : Bool → Prop) : Prop := (K (sEq x_0.1 b0.1))
noncomputable def fe_grid_Valid_1 : Fe := ⟨243, [.val tRoof, .lit (.ptr 1000 0)], [.val false 209 tRoof], [.bool], false, none, fun x y K => grid_Valid_1 x.1 y.1 (fun r => K r (()))⟩
theorem grid_Valid_1_eq (x) (y) (K) : fe_grid_Valid_1.X x y K = run grid_Valid_1_C [] [] 4000 true [] (entry [.val tRoof, .lit (.ptr 1000 0)] [.val false 209 tRoof] x y) (retK Tryz.prog [.tmp 3] [.val false 209 tRoof] [.bool] K) := by kernel_rfl
theorem ok_grid_Valid_1 : FeOk Tryz.prog fe_grid_Valid_1 := fe_of_run (C := grid_Valid_1_C) hm grid_Valid_1_Γ orc_nil (fn := Tryz.f243) Tryz.func243 rfl rfl (by kernel_rfl) grid_Valid_1_eq
/-! slices.IndexFunc[[]loftblock/api.Roof,loftblock/api.Roof] -/
def slices_IndexFunc_grid_Valid_1_s0 : List Slot := [.reg 4 (.int .i64)]
noncomputable def slices_IndexFunc_grid_Valid_1_C : Ctx := ⟨Tryz.prog, bodyOf Tryz.f263, 19, [fe_grid_Valid_1], slices_IndexFunc_grid_Valid_1_s0⟩
theorem slices_IndexFunc_grid_Valid_1_Γ : ∀ e ∈ slices_IndexFunc_grid_Valid_1_C.Γ, FeOk slices_IndexFunc_grid_Valid_1_C.P e := (ok_cons ok_grid_Valid_1 ok_nil)
def slices_IndexFunc_grid_Valid_1_s1 : List Slot := []
def slices_IndexFunc_grid_Valid_1_s2 : List Slot := [.reg 0 (.slice tRoof), .ref 1 (.clos 243 [] [1000]), .reg 7 (.int .i64), .reg 8 (.int .i64), .box false 1000 209 tRoof]
def slices_IndexFunc_grid_Valid_1_l2N (k0 : Prop) (kr : Int → Prop) : Nat → List Roof → Int → Int → Roof → Prop
  | 0, _, _, _, _ => False
  | n + 1, s_0, t_7, t_8, b_1000 => (if (decide (t_8 < t_7)) = true then ((0 ≤ t_8 ∧ t_8 < len s_0) ∧ (grid_Valid_1 (atRoof s_0 t_8) b_1000 (fun r1 => (if r1 = true then (kr t_8) else (slices_IndexFunc_grid_Valid_1_l2N k0 kr n s_0 t_7 (wI64 (t_8 + 1)) b_1000))))) else k0)
def slices_IndexFunc_grid_Valid_1_l2 (s_0 : List Roof) (t_7 : Int) (t_8 : Int) (b_1000 : Roof) (k0 : Prop) (kr : Int → Prop) : Prop := ∃ n, slices_IndexFunc_grid_Valid_1_l2N k0 kr n s_0 t_7 t_8 b_1000
noncomputable def slices_IndexFunc_grid_Valid_1_n_l2 (n : Nat) : Orc := ⟨[0, 0, 1, 0, 1], slices_IndexFunc_grid_Valid_1_s2, fun x Φ => slices_IndexFunc_grid_Valid_1_l2N (Φ (.stop [1, 1] (encS slices_IndexFunc_grid_Valid_1_s1 ()))) (fun rt_4 => Φ (.ret (encS slices_IndexFunc_grid_Valid_1_s0 (rt_4, ())))) n x.1 x.2.1 x.2.2.1 x.2.2.2.1⟩
noncomputable def slices_IndexFunc_grid_Valid_1_o_l2 : Orc := ⟨[0, 0, 1, 0, 1], slices_IndexFunc_grid_Valid_1_s2, fun x Φ => slices_IndexFunc_grid_Valid_1_l2 x.1 x.2.1 x.2.2.1 x.2.2.2.1 (Φ (.stop [1, 1] (encS slices_IndexFunc_grid_Valid_1_s1 ()))) (fun rt_4 => Φ (.ret (encS slices_IndexFunc_grid_Valid_1_s0 (rt_4, ()))))⟩
theorem slices_IndexFunc_grid_Valid_1_l2_eq (n : Nat) (x : sden slices_IndexFunc_grid_Valid_1_s2) (Φ : Out → Prop) : (slices_IndexFunc_grid_Valid_1_n_l2 (n + 1)).X x Φ = run slices_IndexFunc_grid_Valid_1_C [slices_IndexFunc_grid_Valid_1_n_l2 n] [([1, 1], slices_IndexFunc_grid_Valid_1_s1)] 4000 true [0, 0, 1, 0, 1] (encS slices_IndexFunc_grid_Valid_1_s2 x) Φ := by kernel_rfl
theorem slices_IndexFunc_grid_Valid_1_l2_ok : OrcOk slices_IndexFunc_grid_Valid_1_C slices_IndexFunc_grid_Valid_1_o_l2 := orc_loop hm slices_IndexFunc_grid_Valid_1_Γ (on := slices_IndexFunc_grid_Valid_1_n_l2) orc_nil (fun x Φ h => h) slices_IndexFunc_grid_Valid_1_l2_eq (fun x Φ ⟨n, h⟩ => ⟨n, x, h, rfl, rfl⟩)
def slices_IndexFunc_grid_Valid_1 (s_0 : List Roof) (b0 : Roof) (K : Int → Prop) : Prop := (slices_IndexFunc_grid_Valid_1_l2 s_0 (len s_0) 0 b0 (K (-1)) (fun rt_4 => (K rt_4)))
noncomputable def fe_slices_IndexFunc_grid_Valid_1 : Fe := ⟨263, [.val (.slice tRoof), .lit (.clos 243 [] [1000])], [.val false 209 tRoof], [.int .i64], false, none, fun x y K => slices_IndexFunc_grid_Valid_1 x.1 y.1 (fun r => K r (()))⟩
theorem slices_IndexFunc_grid_Valid_1_eq (x) (y) (K) : fe_slices_IndexFunc_grid_Valid_1.X x y K = run slices_IndexFunc_grid_Valid_1_C [slices_IndexFunc_grid_Valid_1_o_l2] [] 4000 true [] (entry [.val (.slice tRoof), .lit (.clos 243 [] [1000])] [.val false 209 tRoof] x y) (retK Tryz.prog [.tmp 4] [.val false 209 tRoof] [.int .i64] K) := by kernel_rfl
theorem ok_slices_IndexFunc_grid_Valid_1 : FeOk Tryz.prog fe_slices_IndexFunc_grid_Valid_1 := fe_of_run (C := slices_IndexFunc_grid_Valid_1_C) hm slices_IndexFunc_grid_Valid_1_Γ (orc_cons slices_IndexFunc_grid_Valid_1_l2_ok orc_nil) (fn := Tryz.f263) Tryz.func263 rfl rfl (by kernel_rfl) slices_IndexFunc_grid_Valid_1_eq
/-! slices.ContainsFunc[[]loftblock/api.Roof,loftblock/api.Roof] -/
def slices_ContainsFunc_grid_Valid_1_s0 : List Slot := [.reg 4 .bool]
noncomputable def slices_ContainsFunc_grid_Valid_1_C : Ctx := ⟨Tryz.prog, bodyOf Tryz.f242, 9, [fe_slices_IndexFunc_grid_Valid_1], slices_ContainsFunc_grid_Valid_1_s0⟩
theorem slices_ContainsFunc_grid_Valid_1_Γ : ∀ e ∈ slices_ContainsFunc_grid_Valid_1_C.Γ, FeOk slices_ContainsFunc_grid_Valid_1_C.P e := (ok_cons ok_slices_IndexFunc_grid_Valid_1 ok_nil)
def slices_ContainsFunc_grid_Valid_1 (s_0 : List Roof) (b0 : Roof) (K : Bool → Prop) : Prop := (slices_IndexFunc_grid_Valid_1 s_0 b0 (fun r1 => (K (decide (r1 ≥ 0)))))
noncomputable def fe_slices_ContainsFunc_grid_Valid_1 : Fe := ⟨242, [.val (.slice tRoof), .lit (.clos 243 [] [1000])], [.val false 209 tRoof], [.bool], false, none, fun x y K => slices_ContainsFunc_grid_Valid_1 x.1 y.1 (fun r => K r (()))⟩
theorem slices_ContainsFunc_grid_Valid_1_eq (x) (y) (K) : fe_slices_ContainsFunc_grid_Valid_1.X x y K = run slices_ContainsFunc_grid_Valid_1_C [] [] 4000 true [] (entry [.val (.slice tRoof), .lit (.clos 243 [] [1000])] [.val false 209 tRoof] x y) (retK Tryz.prog [.tmp 4] [.val false 209 tRoof] [.bool] K) := by kernel_rfl
theorem ok_slices_ContainsFunc_grid_Valid_1 : FeOk Tryz.prog fe_slices_ContainsFunc_grid_Valid_1 := fe_of_run (C := slices_ContainsFunc_grid_Valid_1_C) hm slices_ContainsFunc_grid_Valid_1_Γ orc_nil (fn := Tryz.f242) Tryz.func242 rfl rfl (by kernel_rfl) slices_ContainsFunc_grid_Valid_1_eq
/-! loftblock/grid.Valid -/
def grid_Valid_s0 : List Slot := [.reg 2 .bool]
noncomputable def grid_Valid_C : Ctx := ⟨Tryz.prog, bodyOf Tryz.f195, 54, [fe_grid_isName, fe_slices_ContainsFunc_grid_Valid_1, fe_grid_within], grid_Valid_s0⟩
theorem grid_Valid_Γ : ∀ e ∈ grid_Valid_C.Γ, FeOk grid_Valid_C.P e := (ok_cons ok_grid_isName (ok_cons ok_slices_ContainsFunc_grid_Valid_1 (ok_cons ok_grid_within ok_nil)))
def grid_Valid_s1 : List Slot := [.reg 0 (.slice tRoof), .reg 8 (.slice tRoof), .reg 9 (.int .i64), .reg 10 (.int .i64)]
def grid_Valid_s2 : List Slot := [.reg 0 (.slice tRoof), .reg 3 (.int .i64), .ref 4 (.ptr 4 0), .reg 8 (.slice tRoof), .reg 9 (.int .i64), .reg 10 (.int .i64), .reg 47 .bool, .box true 4 209 tRoof]
def grid_Valid_j3 (l_0 : List Roof) (i_3 : Int) (t_8 : List Roof) (t_9 : Int) (t_10 : Int) (t_47 : Bool) (b_4 : Roof) (k0 : (List Roof) → (List Roof) → Int → Int → Prop) (kr : Bool → Prop) : Prop := (if t_47 = true then (kr false) else ((0 ≤ i_3 ∧ i_3 ≤ len l_0) ∧ (slices_ContainsFunc_grid_Valid_1 (List.take (Int.toNat i_3) l_0) b_4 (fun r2 => (if r2 = true then (kr false) else (k0 l_0 t_8 t_9 (wI64 (t_10 + 1))))))))
noncomputable def grid_Valid_o_j3 : Orc := ⟨[1, 0, 1, 0, 0, 1, 1, 0, 0, 1, 0, 1, 1], grid_Valid_s2, fun x Φ => grid_Valid_j3 x.1 x.2.1 x.2.2.1 x.2.2.2.1 x.2.2.2.2.1 x.2.2.2.2.2.1 x.2.2.2.2.2.2.1 (fun l_0 t_8 t_9 t_10 => Φ (.stop [0, 0, 1, 0, 1, 1] (encS grid_Valid_s1 (l_0, t_8, t_9, t_10, ())))) (fun rt_2 => Φ (.ret (encS grid_Valid_s0 (rt_2, ()))))⟩
theorem grid_Valid_j3_eq (x : sden grid_Valid_s2) (Φ : Out → Prop) : grid_Valid_o_j3.X x Φ = run grid_Valid_C [] [([0, 0, 1, 0, 1, 1], grid_Valid_s1)] 4000 true [1, 0, 1, 0, 0, 1, 1, 0, 0, 1, 0, 1, 1] (encS grid_Valid_s2 x) Φ := by kernel_rfl
theorem grid_Valid_j3_ok : OrcOk grid_Valid_C grid_Valid_o_j3 := orc_of_run hm grid_Valid_Γ orc_nil grid_Valid_j3_eq
def grid_Valid_s3 : List Slot := []
def grid_Valid_l2N (k0 : Prop) (kr : Bool → Prop) : Nat → List Roof → List Roof → Int → Int → Prop
  | 0, _, _, _, _ => False
  | n + 1, l_0, t_8, t_9, t_10 => (if (decide (t_10 < t_9)) = true then ((0 ≤ t_10 ∧ t_10 < len t_8) ∧ (grid_isName (atRoof t_8 t_10).1 (fun r1 => (if (!r1) = true then (grid_Valid_j3 l_0 t_10 t_8 t_9 t_10 true (atRoof t_8 t_10) (fun l_0 t_8 t_9 t_10 => (grid_Valid_l2N k0 kr n l_0 t_8 t_9 t_10)) kr) else (grid_within (atRoof t_8 t_10).2.1 (fun r3 => (if (!r3) = true then (grid_Valid_j3 l_0 t_10 t_8 t_9 t_10 true (atRoof t_8 t_10) (fun l_0 t_8 t_9 t_10 => (grid_Valid_l2N k0 kr n l_0 t_8 t_9 t_10)) kr) else (grid_within (atRoof t_8 t_10).2.2.1 (fun r4 => (if (!r4) = true then (grid_Valid_j3 l_0 t_10 t_8 t_9 t_10 true (atRoof t_8 t_10) (fun l_0 t_8 t_9 t_10 => (grid_Valid_l2N k0 kr n l_0 t_8 t_9 t_10)) kr) else (if (decide ((atRoof t_8 t_10).2.1 > (atRoof t_8 t_10).2.2.1)) = true then (grid_Valid_j3 l_0 t_10 t_8 t_9 t_10 true (atRoof t_8 t_10) (fun l_0 t_8 t_9 t_10 => (grid_Valid_l2N k0 kr n l_0 t_8 t_9 t_10)) kr) else (if (decide ((atRoof t_8 t_10).2.2.2 < 0)) = true then (grid_Valid_j3 l_0 t_10 t_8 t_9 t_10 true (atRoof t_8 t_10) (fun l_0 t_8 t_9 t_10 => (grid_Valid_l2N k0 kr n l_0 t_8 t_9 t_10)) kr) else (grid_Valid_j3 l_0 t_10 t_8 t_9 t_10 (decide ((atRoof t_8 t_10).2.2.2 > 67108864)) (atRoof t_8 t_10) (fun l_0 t_8 t_9 t_10 => (grid_Valid_l2N k0 kr n l_0 t_8 t_9 t_10)) kr))))))))))))) else k0)
def grid_Valid_l2 (l_0 : List Roof) (t_8 : List Roof) (t_9 : Int) (t_10 : Int) (k0 : Prop) (kr : Bool → Prop) : Prop := ∃ n, grid_Valid_l2N k0 kr n l_0 t_8 t_9 t_10
noncomputable def grid_Valid_n_l2 (n : Nat) : Orc := ⟨[0, 0, 1, 0, 1, 1], grid_Valid_s1, fun x Φ => grid_Valid_l2N (Φ (.stop [1, 1, 1] (encS grid_Valid_s3 ()))) (fun rt_2 => Φ (.ret (encS grid_Valid_s0 (rt_2, ())))) n x.1 x.2.1 x.2.2.1 x.2.2.2.1⟩
noncomputable def grid_Valid_o_l2 : Orc := ⟨[0, 0, 1, 0, 1, 1], grid_Valid_s1, fun x Φ => grid_Valid_l2 x.1 x.2.1 x.2.2.1 x.2.2.2.1 (Φ (.stop [1, 1, 1] (encS grid_Valid_s3 ()))) (fun rt_2 => Φ (.ret (encS grid_Valid_s0 (rt_2, ()))))⟩
theorem grid_Valid_l2_eq (n : Nat) (x : sden grid_Valid_s1) (Φ : Out → Prop) : (grid_Valid_n_l2 (n + 1)).X x Φ = run grid_Valid_C [grid_Valid_n_l2 n, grid_Valid_o_j3] [([1, 1, 1], grid_Valid_s3)] 4000 true [0, 0, 1, 0, 1, 1] (encS grid_Valid_s1 x) Φ := by kernel_rfl
theorem grid_Valid_l2_ok : OrcOk grid_Valid_C grid_Valid_o_l2 := orc_loop hm grid_Valid_Γ (on := grid_Valid_n_l2) (orc_cons grid_Valid_j3_ok orc_nil) (fun x Φ h => h) grid_Valid_l2_eq (fun x Φ ⟨n, h⟩ => ⟨n, x, h, rfl, rfl⟩)
def grid_Valid (l_0 : List Roof) (K : Bool → Prop) : Prop := (if (decide ((len l_0) > 20)) = true then (K false) else (grid_Valid_l2 l_0 l_0 (len l_0) 0 (K true) (fun rt_2 => (K rt_2))))
noncomputable def fe_grid_Valid : Fe := ⟨195, [.val (.slice tRoof)], [], [.bool], false, none, fun x y K => grid_Valid x.1 (fun r => K r (()))⟩
theorem grid_Valid_eq (x) (y) (K) : fe_grid_Valid.X x y K = run grid_Valid_C [grid_Valid_o_l2] [] 4000 true [] (entry [.val (.slice tRoof)] [] x y) (retK Tryz.prog [.tmp 2] [] [.bool] K) := by kernel_rfl
theorem ok_grid_Valid : FeOk Tryz.prog fe_grid_Valid := fe_of_run (C := grid_Valid_C) hm grid_Valid_Γ (orc_cons grid_Valid_l2_ok orc_nil) (fn := Tryz.f195) Tryz.func195 rfl rfl (by kernel_rfl) grid_Valid_eq
/-! loftblock/batten.between -/
def batten_between_s0 : List Slot := [.reg 6 .bool]
noncomputable def batten_between_C : Ctx := ⟨Tryz.prog, bodyOf Tryz.f244, 15, [], batten_between_s0⟩
theorem batten_between_Γ : ∀ e ∈ batten_between_C.Γ, FeOk batten_between_C.P e := ok_nil
def batten_between (n_0 : Int) (low_1 : Int) (high_2 : Int) (K : Bool → Prop) : Prop := (if (decide (n_0 ≥ low_1)) = true then (K (decide (n_0 ≤ high_2))) else (K false))
noncomputable def fe_batten_between : Fe := ⟨244, [.val (.int .i64), .val (.int .i64), .val (.int .i64)], [], [.bool], false, none, fun x y K => batten_between x.1 x.2.1 x.2.2.1 (fun r => K r (()))⟩
theorem batten_between_eq (x) (y) (K) : fe_batten_between.X x y K = run batten_between_C [] [] 4000 true [] (entry [.val (.int .i64), .val (.int .i64), .val (.int .i64)] [] x y) (retK Tryz.prog [.tmp 6] [] [.bool] K) := by kernel_rfl
theorem ok_batten_between : FeOk Tryz.prog fe_batten_between := fe_of_run (C := batten_between_C) hm batten_between_Γ orc_nil (fn := Tryz.f244) Tryz.func244 rfl rfl (by kernel_rfl) batten_between_eq
/-! loftblock/batten.lines -/
def batten_lines_s0 : List Slot := [.reg 4 .bool]
noncomputable def batten_lines_C : Ctx := ⟨Tryz.prog, bodyOf Tryz.f245, 42, [fe_batten_between], batten_lines_s0⟩
theorem batten_lines_Γ : ∀ e ∈ batten_lines_C.Γ, FeOk batten_lines_C.P e := (ok_cons ok_batten_between ok_nil)
def batten_lines_s1 : List Slot := []
def batten_lines_s2 : List Slot := [.reg 0 (.slice (.int .i64)), .reg 5 (.int .i64)]
def batten_lines_l3N (k0 : Prop) (kr : Bool → Prop) : Nat → List Int → Int → Prop
  | 0, _, _ => False
  | n + 1, l_0, i_5 => (if (decide (i_5 < (len l_0))) = true then ((0 ≤ i_5 ∧ i_5 < len l_0) ∧ ((0 ≤ (wI64 (i_5 - 1)) ∧ (wI64 (i_5 - 1)) < len l_0) ∧ (if (decide ((atI l_0 i_5) ≤ (atI l_0 (wI64 (i_5 - 1))))) = true then (kr false) else (batten_lines_l3N k0 kr n l_0 (wI64 (i_5 + 1)))))) else k0)
def batten_lines_l3 (l_0 : List Int) (i_5 : Int) (k0 : Prop) (kr : Bool → Prop) : Prop := ∃ n, batten_lines_l3N k0 kr n l_0 i_5
noncomputable def batten_lines_n_l3 (n : Nat) : Orc := ⟨[0, 0, 1, 0, 1, 1], batten_lines_s2, fun x Φ => batten_lines_l3N (Φ (.stop [1, 1, 1] (encS batten_lines_s1 ()))) (fun rt_4 => Φ (.ret (encS batten_lines_s0 (rt_4, ())))) n x.1 x.2.1⟩
noncomputable def batten_lines_o_l3 : Orc := ⟨[0, 0, 1, 0, 1, 1], batten_lines_s2, fun x Φ => batten_lines_l3 x.1 x.2.1 (Φ (.stop [1, 1, 1] (encS batten_lines_s1 ()))) (fun rt_4 => Φ (.ret (encS batten_lines_s0 (rt_4, ()))))⟩
theorem batten_lines_l3_eq (n : Nat) (x : sden batten_lines_s2) (Φ : Out → Prop) : (batten_lines_n_l3 (n + 1)).X x Φ = run batten_lines_C [batten_lines_n_l3 n] [([1, 1, 1], batten_lines_s1)] 4000 true [0, 0, 1, 0, 1, 1] (encS batten_lines_s2 x) Φ := by kernel_rfl
theorem batten_lines_l3_ok : OrcOk batten_lines_C batten_lines_o_l3 := orc_loop hm batten_lines_Γ (on := batten_lines_n_l3) orc_nil (fun x Φ h => h) batten_lines_l3_eq (fun x Φ ⟨n, h⟩ => ⟨n, x, h, rfl, rfl⟩)
def batten_lines_s3 : List Slot := [.reg 0 (.slice (.int .i64)), .reg 25 .bool]
def batten_lines_j2 (l_0 : List Int) (t_25 : Bool) (kr : Bool → Prop) : Prop := (if t_25 = true then (kr false) else (batten_lines_l3 l_0 1 (kr true) kr))
noncomputable def batten_lines_o_j2 : Orc := ⟨[1, 0, 1], batten_lines_s3, fun x Φ => batten_lines_j2 x.1 x.2.1 (fun rt_4 => Φ (.ret (encS batten_lines_s0 (rt_4, ()))))⟩
theorem batten_lines_j2_eq (x : sden batten_lines_s3) (Φ : Out → Prop) : batten_lines_o_j2.X x Φ = run batten_lines_C [batten_lines_o_l3] [] 4000 true [1, 0, 1] (encS batten_lines_s3 x) Φ := by kernel_rfl
theorem batten_lines_j2_ok : OrcOk batten_lines_C batten_lines_o_j2 := orc_of_run hm batten_lines_Γ (orc_cons batten_lines_l3_ok orc_nil) batten_lines_j2_eq
def batten_lines (l_0 : List Int) (length_1 : Int) (K : Bool → Prop) : Prop := (batten_between (len l_0) 2 10 (fun r1 => (if (!r1) = true then (batten_lines_j2 l_0 true (fun rt_4 => (K rt_4))) else (((0 : Int) ≤ 0 ∧ 0 < len l_0) ∧ (if (decide ((atI l_0 0) < 0)) = true then (batten_lines_j2 l_0 true (fun rt_4 => (K rt_4))) else ((0 ≤ (wI64 ((len l_0) - 1)) ∧ (wI64 ((len l_0) - 1)) < len l_0) ∧ (batten_lines_j2 l_0 (decide ((atI l_0 (wI64 ((len l_0) - 1))) > length_1)) (fun rt_4 => (K rt_4)))))))))
noncomputable def fe_batten_lines : Fe := ⟨245, [.val (.slice (.int .i64)), .val (.int .i64)], [], [.bool], false, none, fun x y K => batten_lines x.1 x.2.1 (fun r => K r (()))⟩
theorem batten_lines_eq (x) (y) (K) : fe_batten_lines.X x y K = run batten_lines_C [batten_lines_o_j2] [] 4000 true [] (entry [.val (.slice (.int .i64)), .val (.int .i64)] [] x y) (retK Tryz.prog [.tmp 4] [] [.bool] K) := by kernel_rfl
theorem ok_batten_lines : FeOk Tryz.prog fe_batten_lines := fe_of_run (C := batten_lines_C) hm batten_lines_Γ (orc_cons batten_lines_j2_ok orc_nil) (fn := Tryz.f245) Tryz.func245 rfl rfl (by kernel_rfl) batten_lines_eq
/-! loftblock/batten.alone -/
def batten_alone_s0 : List Slot := [.reg 2 .bool]
noncomputable def batten_alone_C : Ctx := ⟨Tryz.prog, bodyOf Tryz.f266, 26, [fe_decimal_IsName, fe_batten_between], batten_alone_s0⟩
theorem batten_alone_Γ : ∀ e ∈ batten_alone_C.Γ, FeOk batten_alone_C.P e := (ok_cons ok_decimal_IsName (ok_cons ok_batten_between ok_nil))
def batten_alone (x_0 : Item) (K : Bool → Prop) : Prop := (decimal_IsName x_0.1 (fun r1 => (if r1 = true then (batten_between x_0.2.2.2.1 0 1048576 (fun r2 => (if r2 = true then (batten_between x_0.2.2.2.2.1 0 1048576 (fun r3 => (if r3 = true then (batten_between x_0.2.2.2.2.2.1 0 1048576 (fun r4 => (if r4 = true then (batten_between x_0.2.2.2.2.2.2 0 1048576 (fun r5 => (K r5))) else (K false)))) else (K false)))) else (K false)))) else (K false))))
noncomputable def fe_batten_alone : Fe := ⟨266, [.val tItem], [], [.bool], false, none, fun x y K => batten_alone x.1 (fun r => K r (()))⟩
theorem batten_alone_eq (x) (y) (K) : fe_batten_alone.X x y K = run batten_alone_C [] [] 4000 true [] (entry [.val tItem] [] x y) (retK Tryz.prog [.tmp 2] [] [.bool] K) := by kernel_rfl
theorem ok_batten_alone : FeOk Tryz.prog fe_batten_alone := fe_of_run (C := batten_alone_C) hm batten_alone_Γ orc_nil (fn := Tryz.f266) Tryz.func266 rfl rfl (by kernel_rfl) batten_alone_eq
/-! loftblock/batten.inside -/
def batten_inside_s0 : List Slot := [.reg 4 .bool]
noncomputable def batten_inside_C : Ctx := ⟨Tryz.prog, bodyOf Tryz.f267, 22, [fe_batten_between], batten_inside_s0⟩
theorem batten_inside_Γ : ∀ e ∈ batten_inside_C.Γ, FeOk batten_inside_C.P e := (ok_cons ok_batten_between ok_nil)
def batten_inside (x_0 : Item) (length_1 : Int) (K : Bool → Prop) : Prop := (if (decide (x_0.2.1 ≥ 0)) = true then (batten_between x_0.2.2.1 1 1048576 (fun r1 => (if r1 = true then (K (decide (x_0.2.1 ≤ (wI64 (length_1 - x_0.2.2.1))))) else (K false)))) else (K false))
noncomputable def fe_batten_inside : Fe := ⟨267, [.val tItem, .val (.int .i64)], [], [.bool], false, none, fun x y K => batten_inside x.1 x.2.1 (fun r => K r (()))⟩
theorem batten_inside_eq (x) (y) (K) : fe_batten_inside.X x y K = run batten_inside_C [] [] 4000 true [] (entry [.val tItem, .val (.int .i64)] [] x y) (retK Tryz.prog [.tmp 4] [] [.bool] K) := by kernel_rfl
theorem ok_batten_inside : FeOk Tryz.prog fe_batten_inside := fe_of_run (C := batten_inside_C) hm batten_inside_Γ orc_nil (fn := Tryz.f267) Tryz.func267 rfl rfl (by kernel_rfl) batten_inside_eq
/-! loftblock/batten.apart -/
def batten_apart_s0 : List Slot := [.reg 4 .bool]
noncomputable def batten_apart_C : Ctx := ⟨Tryz.prog, bodyOf Tryz.f270, 23, [], batten_apart_s0⟩
theorem batten_apart_Γ : ∀ e ∈ batten_apart_C.Γ, FeOk batten_apart_C.P e := ok_nil
def batten_apart (a_0 : Item) (b_1 : Item) (K : Bool → Prop) : Prop := (if (decide ((wI64 (a_0.2.1 + a_0.2.2.1)) ≤ b_1.2.1)) = true then (K true) else (K (decide ((wI64 (b_1.2.1 + b_1.2.2.1)) ≤ a_0.2.1))))
noncomputable def fe_batten_apart : Fe := ⟨270, [.val tItem, .val tItem], [], [.bool], false, none, fun x y K => batten_apart x.1 x.2.1 (fun r => K r (()))⟩
theorem batten_apart_eq (x) (y) (K) : fe_batten_apart.X x y K = run batten_apart_C [] [] 4000 true [] (entry [.val tItem, .val tItem] [] x y) (retK Tryz.prog [.tmp 4] [] [.bool] K) := by kernel_rfl
theorem ok_batten_apart : FeOk Tryz.prog fe_batten_apart := fe_of_run (C := batten_apart_C) hm batten_apart_Γ orc_nil (fn := Tryz.f270) Tryz.func270 rfl rfl (by kernel_rfl) batten_apart_eq
/-! loftblock/batten.items$2 -/
def batten_items_2_s0 : List Slot := [.reg 3 .bool]
noncomputable def batten_items_2_C : Ctx := ⟨Tryz.prog, bodyOf Tryz.f269, 8, [fe_batten_apart], batten_items_2_s0⟩
theorem batten_items_2_Γ : ∀ e ∈ batten_items_2_C.Γ, FeOk batten_items_2_C.P e := (ok_cons ok_batten_apart ok_nil)
def batten_items_2 (y_0 : Item) (b0 : Item) (K : Bool → Prop) : Prop := (batten_apart b0 y_0 (fun r1 => (K (!r1))))
noncomputable def fe_batten_items_2 : Fe := ⟨269, [.val tItem, .lit (.ptr 1000 0)], [.val false 250 tItem], [.bool], false, none, fun x y K => batten_items_2 x.1 y.1 (fun r => K r (()))⟩
theorem batten_items_2_eq (x) (y) (K) : fe_batten_items_2.X x y K = run batten_items_2_C [] [] 4000 true [] (entry [.val tItem, .lit (.ptr 1000 0)] [.val false 250 tItem] x y) (retK Tryz.prog [.tmp 3] [.val false 250 tItem] [.bool] K) := by kernel_rfl
theorem ok_batten_items_2 : FeOk Tryz.prog fe_batten_items_2 := fe_of_run (C := batten_items_2_C) hm batten_items_2_Γ orc_nil (fn := Tryz.f269) Tryz.func269 rfl rfl (by kernel_rfl) batten_items_2_eq
/-! slices.IndexFunc[[]loftblock/api.Item,loftblock/api.Item] -/
def slices_IndexFunc_batten_items_2_s0 : List Slot := [.reg 4 (.int .i64)]
noncomputable def slices_IndexFunc_batten_items_2_C : Ctx := ⟨Tryz.prog, bodyOf Tryz.f285, 19, [fe_batten_items_2], slices_IndexFunc_batten_items_2_s0⟩
theorem slices_IndexFunc_batten_items_2_Γ : ∀ e ∈ slices_IndexFunc_batten_items_2_C.Γ, FeOk slices_IndexFunc_batten_items_2_C.P e := (ok_cons ok_batten_items_2 ok_nil)
def slices_IndexFunc_batten_items_2_s1 : List Slot := []
def slices_IndexFunc_batten_items_2_s2 : List Slot := [.reg 0 (.slice tItem), .ref 1 (.clos 269 [] [1000]), .reg 7 (.int .i64), .reg 8 (.int .i64), .box false 1000 250 tItem]
def slices_IndexFunc_batten_items_2_l2N (k0 : Prop) (kr : Int → Prop) : Nat → List Item → Int → Int → Item → Prop
  | 0, _, _, _, _ => False
  | n + 1, s_0, t_7, t_8, b_1000 => (if (decide (t_8 < t_7)) = true then ((0 ≤ t_8 ∧ t_8 < len s_0) ∧ (batten_items_2 (atItem s_0 t_8) b_1000 (fun r1 => (if r1 = true then (kr t_8) else (slices_IndexFunc_batten_items_2_l2N k0 kr n s_0 t_7 (wI64 (t_8 + 1)) b_1000))))) else k0)
def slices_IndexFunc_batten_items_2_l2 (s_0 : List Item) (t_7 : Int) (t_8 : Int) (b_1000 : Item) (k0 : Prop) (kr : Int → Prop) : Prop := ∃ n, slices_IndexFunc_batten_items_2_l2N k0 kr n s_0 t_7 t_8 b_1000
noncomputable def slices_IndexFunc_batten_items_2_n_l2 (n : Nat) : Orc := ⟨[0, 0, 1, 0, 1], slices_IndexFunc_batten_items_2_s2, fun x Φ => slices_IndexFunc_batten_items_2_l2N (Φ (.stop [1, 1] (encS slices_IndexFunc_batten_items_2_s1 ()))) (fun rt_4 => Φ (.ret (encS slices_IndexFunc_batten_items_2_s0 (rt_4, ())))) n x.1 x.2.1 x.2.2.1 x.2.2.2.1⟩
noncomputable def slices_IndexFunc_batten_items_2_o_l2 : Orc := ⟨[0, 0, 1, 0, 1], slices_IndexFunc_batten_items_2_s2, fun x Φ => slices_IndexFunc_batten_items_2_l2 x.1 x.2.1 x.2.2.1 x.2.2.2.1 (Φ (.stop [1, 1] (encS slices_IndexFunc_batten_items_2_s1 ()))) (fun rt_4 => Φ (.ret (encS slices_IndexFunc_batten_items_2_s0 (rt_4, ()))))⟩
theorem slices_IndexFunc_batten_items_2_l2_eq (n : Nat) (x : sden slices_IndexFunc_batten_items_2_s2) (Φ : Out → Prop) : (slices_IndexFunc_batten_items_2_n_l2 (n + 1)).X x Φ = run slices_IndexFunc_batten_items_2_C [slices_IndexFunc_batten_items_2_n_l2 n] [([1, 1], slices_IndexFunc_batten_items_2_s1)] 4000 true [0, 0, 1, 0, 1] (encS slices_IndexFunc_batten_items_2_s2 x) Φ := by kernel_rfl
theorem slices_IndexFunc_batten_items_2_l2_ok : OrcOk slices_IndexFunc_batten_items_2_C slices_IndexFunc_batten_items_2_o_l2 := orc_loop hm slices_IndexFunc_batten_items_2_Γ (on := slices_IndexFunc_batten_items_2_n_l2) orc_nil (fun x Φ h => h) slices_IndexFunc_batten_items_2_l2_eq (fun x Φ ⟨n, h⟩ => ⟨n, x, h, rfl, rfl⟩)
def slices_IndexFunc_batten_items_2 (s_0 : List Item) (b0 : Item) (K : Int → Prop) : Prop := (slices_IndexFunc_batten_items_2_l2 s_0 (len s_0) 0 b0 (K (-1)) (fun rt_4 => (K rt_4)))
noncomputable def fe_slices_IndexFunc_batten_items_2 : Fe := ⟨285, [.val (.slice tItem), .lit (.clos 269 [] [1000])], [.val false 250 tItem], [.int .i64], false, none, fun x y K => slices_IndexFunc_batten_items_2 x.1 y.1 (fun r => K r (()))⟩
theorem slices_IndexFunc_batten_items_2_eq (x) (y) (K) : fe_slices_IndexFunc_batten_items_2.X x y K = run slices_IndexFunc_batten_items_2_C [slices_IndexFunc_batten_items_2_o_l2] [] 4000 true [] (entry [.val (.slice tItem), .lit (.clos 269 [] [1000])] [.val false 250 tItem] x y) (retK Tryz.prog [.tmp 4] [.val false 250 tItem] [.int .i64] K) := by kernel_rfl
theorem ok_slices_IndexFunc_batten_items_2 : FeOk Tryz.prog fe_slices_IndexFunc_batten_items_2 := fe_of_run (C := slices_IndexFunc_batten_items_2_C) hm slices_IndexFunc_batten_items_2_Γ (orc_cons slices_IndexFunc_batten_items_2_l2_ok orc_nil) (fn := Tryz.f285) Tryz.func285 rfl rfl (by kernel_rfl) slices_IndexFunc_batten_items_2_eq
/-! slices.ContainsFunc[[]loftblock/api.Item,loftblock/api.Item] -/
def slices_ContainsFunc_batten_items_2_s0 : List Slot := [.reg 4 .bool]
noncomputable def slices_ContainsFunc_batten_items_2_C : Ctx := ⟨Tryz.prog, bodyOf Tryz.f268, 9, [fe_slices_IndexFunc_batten_items_2], slices_ContainsFunc_batten_items_2_s0⟩
theorem slices_ContainsFunc_batten_items_2_Γ : ∀ e ∈ slices_ContainsFunc_batten_items_2_C.Γ, FeOk slices_ContainsFunc_batten_items_2_C.P e := (ok_cons ok_slices_IndexFunc_batten_items_2 ok_nil)
def slices_ContainsFunc_batten_items_2 (s_0 : List Item) (b0 : Item) (K : Bool → Prop) : Prop := (slices_IndexFunc_batten_items_2 s_0 b0 (fun r1 => (K (decide (r1 ≥ 0)))))
noncomputable def fe_slices_ContainsFunc_batten_items_2 : Fe := ⟨268, [.val (.slice tItem), .lit (.clos 269 [] [1000])], [.val false 250 tItem], [.bool], false, none, fun x y K => slices_ContainsFunc_batten_items_2 x.1 y.1 (fun r => K r (()))⟩
theorem slices_ContainsFunc_batten_items_2_eq (x) (y) (K) : fe_slices_ContainsFunc_batten_items_2.X x y K = run slices_ContainsFunc_batten_items_2_C [] [] 4000 true [] (entry [.val (.slice tItem), .lit (.clos 269 [] [1000])] [.val false 250 tItem] x y) (retK Tryz.prog [.tmp 4] [.val false 250 tItem] [.bool] K) := by kernel_rfl
theorem ok_slices_ContainsFunc_batten_items_2 : FeOk Tryz.prog fe_slices_ContainsFunc_batten_items_2 := fe_of_run (C := slices_ContainsFunc_batten_items_2_C) hm slices_ContainsFunc_batten_items_2_Γ orc_nil (fn := Tryz.f268) Tryz.func268 rfl rfl (by kernel_rfl) slices_ContainsFunc_batten_items_2_eq
/-! loftblock/batten.items -/
def batten_items_s0 : List Slot := [.reg 4 .bool]
noncomputable def batten_items_C : Ctx := ⟨Tryz.prog, bodyOf Tryz.f246, 38, [fe_batten_alone, fe_batten_inside, fe_slices_ContainsFunc_batten_items_2, fe_twice_Item], batten_items_s0⟩
theorem batten_items_Γ : ∀ e ∈ batten_items_C.Γ, FeOk batten_items_C.P e := (ok_cons ok_batten_alone (ok_cons ok_batten_inside (ok_cons ok_slices_ContainsFunc_batten_items_2 (ok_cons ok_twice_Item ok_nil))))
def batten_items_s1 : List Slot := []
def batten_items_s2 : List Slot := [.reg 0 (.slice tItem), .reg 1 (.int .i64), .reg 14 (.slice tItem), .reg 15 (.int .i64), .reg 16 (.int .i64)]
def batten_items_l3N (k0 : Prop) (kr : Bool → Prop) : Nat → List Item → Int → List Item → Int → Int → Prop
  | 0, _, _, _, _, _ => False
  | n + 1, l_0, length_1, t_14, t_15, t_16 => (if (decide (t_16 < t_15)) = true then ((0 ≤ t_16 ∧ t_16 < len t_14) ∧ (batten_alone (atItem t_14 t_16) (fun r1 => (if (!r1) = true then (kr false) else (batten_inside (atItem t_14 t_16) length_1 (fun r2 => (if (!r2) = true then (kr false) else ((0 ≤ t_16 ∧ t_16 ≤ len l_0) ∧ (slices_ContainsFunc_batten_items_2 (List.take (Int.toNat t_16) l_0) (atItem t_14 t_16) (fun r3 => (if r3 = true then (kr false) else (batten_items_l3N k0 kr n l_0 length_1 t_14 t_15 (wI64 (t_16 + 1)))))))))))))) else k0)
def batten_items_l3 (l_0 : List Item) (length_1 : Int) (t_14 : List Item) (t_15 : Int) (t_16 : Int) (k0 : Prop) (kr : Bool → Prop) : Prop := ∃ n, batten_items_l3N k0 kr n l_0 length_1 t_14 t_15 t_16
noncomputable def batten_items_n_l3 (n : Nat) : Orc := ⟨[0, 0, 1, 0, 1, 1], batten_items_s2, fun x Φ => batten_items_l3N (Φ (.stop [1, 1, 1] (encS batten_items_s1 ()))) (fun rt_4 => Φ (.ret (encS batten_items_s0 (rt_4, ())))) n x.1 x.2.1 x.2.2.1 x.2.2.2.1 x.2.2.2.2.1⟩
noncomputable def batten_items_o_l3 : Orc := ⟨[0, 0, 1, 0, 1, 1], batten_items_s2, fun x Φ => batten_items_l3 x.1 x.2.1 x.2.2.1 x.2.2.2.1 x.2.2.2.2.1 (Φ (.stop [1, 1, 1] (encS batten_items_s1 ()))) (fun rt_4 => Φ (.ret (encS batten_items_s0 (rt_4, ()))))⟩
theorem batten_items_l3_eq (n : Nat) (x : sden batten_items_s2) (Φ : Out → Prop) : (batten_items_n_l3 (n + 1)).X x Φ = run batten_items_C [batten_items_n_l3 n] [([1, 1, 1], batten_items_s1)] 4000 true [0, 0, 1, 0, 1, 1] (encS batten_items_s2 x) Φ := by kernel_rfl
theorem batten_items_l3_ok : OrcOk batten_items_C batten_items_o_l3 := orc_loop hm batten_items_Γ (on := batten_items_n_l3) orc_nil (fun x Φ h => h) batten_items_l3_eq (fun x Φ ⟨n, h⟩ => ⟨n, x, h, rfl, rfl⟩)
def batten_items_s3 : List Slot := [.reg 0 (.slice tItem), .reg 1 (.int .i64), .reg 13 .bool]
def batten_items_j2 (l_0 : List Item) (length_1 : Int) (t_13 : Bool) (kr : Bool → Prop) : Prop := (if t_13 = true then (kr false) else (batten_items_l3 l_0 length_1 l_0 (len l_0) 0 (kr true) kr))
noncomputable def batten_items_o_j2 : Orc := ⟨[1, 0, 1], batten_items_s3, fun x Φ => batten_items_j2 x.1 x.2.1 x.2.2.1 (fun rt_4 => Φ (.ret (encS batten_items_s0 (rt_4, ()))))⟩
theorem batten_items_j2_eq (x : sden batten_items_s3) (Φ : Out → Prop) : batten_items_o_j2.X x Φ = run batten_items_C [batten_items_o_l3] [] 4000 true [1, 0, 1] (encS batten_items_s3 x) Φ := by kernel_rfl
theorem batten_items_j2_ok : OrcOk batten_items_C batten_items_o_j2 := orc_of_run hm batten_items_Γ (orc_cons batten_items_l3_ok orc_nil) batten_items_j2_eq
def batten_items (l_0 : List Item) (length_1 : Int) (K : Bool → Prop) : Prop := (if (decide ((len l_0) > 40)) = true then (batten_items_j2 l_0 length_1 true (fun rt_4 => (K rt_4))) else (twice_Item l_0 (fun r4 => (batten_items_j2 l_0 length_1 r4 (fun rt_4 => (K rt_4))))))
noncomputable def fe_batten_items : Fe := ⟨246, [.val (.slice tItem), .val (.int .i64)], [], [.bool], false, none, fun x y K => batten_items x.1 x.2.1 (fun r => K r (()))⟩
theorem batten_items_eq (x) (y) (K) : fe_batten_items.X x y K = run batten_items_C [batten_items_o_j2] [] 4000 true [] (entry [.val (.slice tItem), .val (.int .i64)] [] x y) (retK Tryz.prog [.tmp 4] [] [.bool] K) := by kernel_rfl
theorem ok_batten_items : FeOk Tryz.prog fe_batten_items := fe_of_run (C := batten_items_C) hm batten_items_Γ (orc_cons batten_items_j2_ok orc_nil) (fn := Tryz.f246) Tryz.func246 rfl rfl (by kernel_rfl) batten_items_eq
/-! loftblock/batten.bricks -/
def batten_bricks_s0 : List Slot := [.reg 2 .bool]
noncomputable def batten_bricks_C : Ctx := ⟨Tryz.prog, bodyOf Tryz.f247, 42, [fe_decimal_IsName, fe_batten_between, fe_twice_Brick], batten_bricks_s0⟩
theorem batten_bricks_Γ : ∀ e ∈ batten_bricks_C.Γ, FeOk batten_bricks_C.P e := (ok_cons ok_decimal_IsName (ok_cons ok_batten_between (ok_cons ok_twice_Brick ok_nil)))
def batten_bricks_s1 : List Slot := [.reg 3 (.int .i64)]
def batten_bricks_s2 : List Slot := [.reg 3 (.int .i64), .reg 13 (.slice tBrick), .reg 14 (.int .i64), .reg 15 (.int .i64)]
def batten_bricks_l3N (k0 : Int → Prop) (kr : Bool → Prop) : Nat → Int → List Brick → Int → Int → Prop
  | 0, _, _, _, _ => False
  | n + 1, sum_3, t_13, t_14, t_15 => (if (decide (t_15 < t_14)) = true then ((0 ≤ t_15 ∧ t_15 < len t_13) ∧ (decimal_IsName (atBrick t_13 t_15).1 (fun r1 => (if (!r1) = true then (kr false) else (batten_between (atBrick t_13 t_15).2.1 1 1048576 (fun r2 => (if (!r2) = true then (kr false) else (batten_between (atBrick t_13 t_15).2.2 0 60 (fun r3 => (if (!r3) = true then (kr false) else (batten_bricks_l3N k0 kr n (wI64 (sum_3 + (atBrick t_13 t_15).2.2)) t_13 t_14 (wI64 (t_15 + 1))))))))))))) else (k0 sum_3))
def batten_bricks_l3 (sum_3 : Int) (t_13 : List Brick) (t_14 : Int) (t_15 : Int) (k0 : Int → Prop) (kr : Bool → Prop) : Prop := ∃ n, batten_bricks_l3N k0 kr n sum_3 t_13 t_14 t_15
noncomputable def batten_bricks_n_l3 (n : Nat) : Orc := ⟨[0, 0, 1, 0, 1, 1, 1], batten_bricks_s2, fun x Φ => batten_bricks_l3N (fun sum_3 => Φ (.stop [1, 1, 1, 1] (encS batten_bricks_s1 (sum_3, ())))) (fun rt_2 => Φ (.ret (encS batten_bricks_s0 (rt_2, ())))) n x.1 x.2.1 x.2.2.1 x.2.2.2.1⟩
noncomputable def batten_bricks_o_l3 : Orc := ⟨[0, 0, 1, 0, 1, 1, 1], batten_bricks_s2, fun x Φ => batten_bricks_l3 x.1 x.2.1 x.2.2.1 x.2.2.2.1 (fun sum_3 => Φ (.stop [1, 1, 1, 1] (encS batten_bricks_s1 (sum_3, ())))) (fun rt_2 => Φ (.ret (encS batten_bricks_s0 (rt_2, ()))))⟩
theorem batten_bricks_l3_eq (n : Nat) (x : sden batten_bricks_s2) (Φ : Out → Prop) : (batten_bricks_n_l3 (n + 1)).X x Φ = run batten_bricks_C [batten_bricks_n_l3 n] [([1, 1, 1, 1], batten_bricks_s1)] 4000 true [0, 0, 1, 0, 1, 1, 1] (encS batten_bricks_s2 x) Φ := by kernel_rfl
theorem batten_bricks_l3_ok : OrcOk batten_bricks_C batten_bricks_o_l3 := orc_loop hm batten_bricks_Γ (on := batten_bricks_n_l3) orc_nil (fun x Φ h => h) batten_bricks_l3_eq (fun x Φ ⟨n, h⟩ => ⟨n, x, h, rfl, rfl⟩)
def batten_bricks_s3 : List Slot := [.reg 0 (.slice tBrick), .reg 12 .bool]
def batten_bricks_j2 (l_0 : List Brick) (t_12 : Bool) (kr : Bool → Prop) : Prop := (if t_12 = true then (kr false) else (batten_bricks_l3 0 l_0 (len l_0) 0 (fun sum_3 => (kr (decide (sum_3 ≤ 60)))) kr))
noncomputable def batten_bricks_o_j2 : Orc := ⟨[1, 0, 1], batten_bricks_s3, fun x Φ => batten_bricks_j2 x.1 x.2.1 (fun rt_2 => Φ (.ret (encS batten_bricks_s0 (rt_2, ()))))⟩
theorem batten_bricks_j2_eq (x : sden batten_bricks_s3) (Φ : Out → Prop) : batten_bricks_o_j2.X x Φ = run batten_bricks_C [batten_bricks_o_l3] [] 4000 true [1, 0, 1] (encS batten_bricks_s3 x) Φ := by kernel_rfl
theorem batten_bricks_j2_ok : OrcOk batten_bricks_C batten_bricks_o_j2 := orc_of_run hm batten_bricks_Γ (orc_cons batten_bricks_l3_ok orc_nil) batten_bricks_j2_eq
def batten_bricks (l_0 : List Brick) (K : Bool → Prop) : Prop := (if (decide ((len l_0) > 8)) = true then (batten_bricks_j2 l_0 true (fun rt_2 => (K rt_2))) else (twice_Brick l_0 (fun r4 => (batten_bricks_j2 l_0 r4 (fun rt_2 => (K rt_2))))))
noncomputable def fe_batten_bricks : Fe := ⟨247, [.val (.slice tBrick)], [], [.bool], false, none, fun x y K => batten_bricks x.1 (fun r => K r (()))⟩
theorem batten_bricks_eq (x) (y) (K) : fe_batten_bricks.X x y K = run batten_bricks_C [batten_bricks_o_j2] [] 4000 true [] (entry [.val (.slice tBrick)] [] x y) (retK Tryz.prog [.tmp 2] [] [.bool] K) := by kernel_rfl
theorem ok_batten_bricks : FeOk Tryz.prog fe_batten_bricks := fe_of_run (C := batten_bricks_C) hm batten_bricks_Γ (orc_cons batten_bricks_j2_ok orc_nil) (fn := Tryz.f247) Tryz.func247 rfl rfl (by kernel_rfl) batten_bricks_eq
/-! loftblock/batten.Valid -/
def batten_Valid_s0 : List Slot := [.reg 2 .bool]
noncomputable def batten_Valid_C : Ctx := ⟨Tryz.prog, bodyOf Tryz.f196, 83, [fe_decimal_IsName, fe_batten_between, fe_batten_lines, fe_batten_items, fe_batten_bricks], batten_Valid_s0⟩
theorem batten_Valid_Γ : ∀ e ∈ batten_Valid_C.Γ, FeOk batten_Valid_C.P e := (ok_cons ok_decimal_IsName (ok_cons ok_batten_between (ok_cons ok_batten_lines (ok_cons ok_batten_items (ok_cons ok_batten_bricks ok_nil)))))
def batten_Valid (s_0 : Set_) (K : Bool → Prop) : Prop := (decimal_IsName s_0.1 (fun r1 => (if r1 = true then (batten_between s_0.2.1 0 1048576 (fun r2 => (if r2 = true then (if (decide (0 ≤ s_0.2.2.1)) = true then (if (decide (s_0.2.2.1 ≤ s_0.2.2.2.1)) = true then (if (decide (s_0.2.2.2.1 ≤ 1048576)) = true then (batten_between s_0.2.2.2.2.1 1000 1048576 (fun r3 => (if r3 = true then (if ((Int.tmod s_0.2.2.2.2.1 1000) == 0) = true then (batten_lines s_0.2.2.2.2.2.1 s_0.2.2.2.2.1 (fun r4 => (if r4 = true then (batten_between s_0.2.2.2.2.2.2.1 0 1048576 (fun r5 => (if r5 = true then (batten_between s_0.2.2.2.2.2.2.2.1 0 1048576 (fun r6 => (if r6 = true then (batten_between s_0.2.2.2.2.2.2.2.2.1 1 2 (fun r7 => (if r7 = true then (batten_between s_0.2.2.2.2.2.2.2.2.2.1 1 67108864 (fun r8 => (if r8 = true then (batten_between s_0.2.2.2.2.2.2.2.2.2.2.1 0 67108864 (fun r9 => (if r9 = true then (batten_items s_0.2.2.2.2.2.2.2.2.2.2.2.1 s_0.2.2.2.2.1 (fun r10 => (if r10 = true then (batten_bricks s_0.2.2.2.2.2.2.2.2.2.2.2.2 (fun r11 => (K r11))) else (K false)))) else (K false)))) else (K false)))) else (K false)))) else (K false)))) else (K false)))) else (K false)))) else (K false)) else (K false)))) else (K false)) else (K false)) else (K false)) else (K false)))) else (K false))))
noncomputable def fe_batten_Valid : Fe := ⟨196, [.val tSet_], [], [.bool], false, none, fun x y K => batten_Valid x.1 (fun r => K r (()))⟩
theorem batten_Valid_eq (x) (y) (K) : fe_batten_Valid.X x y K = run batten_Valid_C [] [] 4000 true [] (entry [.val tSet_] [] x y) (retK Tryz.prog [.tmp 2] [] [.bool] K) := by kernel_rfl
theorem ok_batten_Valid : FeOk Tryz.prog fe_batten_Valid := fe_of_run (C := batten_Valid_C) hm batten_Valid_Γ orc_nil (fn := Tryz.f196) Tryz.func196 rfl rfl (by kernel_rfl) batten_Valid_eq
/-! loftblock/house.find$1 -/
def house_find_1_s0 : List Slot := [.reg 3 .bool]
noncomputable def house_find_1_C : Ctx := ⟨Tryz.prog, bodyOf Tryz.f248, 8, [], house_find_1_s0⟩
theorem house_find_1_Γ : ∀ e ∈ house_find_1_C.Γ, FeOk house_find_1_C.P e := ok_nil
def house_find_1 (s_0 : Set_) (b0 : ByteArray) (K : Bool → Prop) : Prop := (K (sEq s_0.1 b0))
noncomputable def fe_house_find_1 : Fe := ⟨248, [.val tSet_, .lit (.ptr 1000 0)], [.val false 9 .str], [.bool], false, none, fun x y K => house_find_1 x.1 y.1 (fun r => K r (()))⟩
theorem house_find_1_eq (x) (y) (K) : fe_house_find_1.X x y K = run house_find_1_C [] [] 4000 true [] (entry [.val tSet_, .lit (.ptr 1000 0)] [.val false 9 .str] x y) (retK Tryz.prog [.tmp 3] [.val false 9 .str] [.bool] K) := by kernel_rfl
theorem ok_house_find_1 : FeOk Tryz.prog fe_house_find_1 := fe_of_run (C := house_find_1_C) hm house_find_1_Γ orc_nil (fn := Tryz.f248) Tryz.func248 rfl rfl (by kernel_rfl) house_find_1_eq
/-! slices.IndexFunc[[]loftblock/api.Set,loftblock/api.Set] -/
def slices_IndexFunc_house_find_1_s0 : List Slot := [.reg 4 (.int .i64)]
noncomputable def slices_IndexFunc_house_find_1_C : Ctx := ⟨Tryz.prog, bodyOf Tryz.f106, 19, [fe_house_find_1], slices_IndexFunc_house_find_1_s0⟩
theorem slices_IndexFunc_house_find_1_Γ : ∀ e ∈ slices_IndexFunc_house_find_1_C.Γ, FeOk slices_IndexFunc_house_find_1_C.P e := (ok_cons ok_house_find_1 ok_nil)
def slices_IndexFunc_house_find_1_s1 : List Slot := []
def slices_IndexFunc_house_find_1_s2 : List Slot := [.reg 0 (.slice tSet_), .ref 1 (.clos 248 [] [1000]), .reg 7 (.int .i64), .reg 8 (.int .i64), .box false 1000 9 .str]
def slices_IndexFunc_house_find_1_l2N (k0 : Prop) (kr : Int → Prop) : Nat → List Set_ → Int → Int → ByteArray → Prop
  | 0, _, _, _, _ => False
  | n + 1, s_0, t_7, t_8, b_1000 => (if (decide (t_8 < t_7)) = true then ((0 ≤ t_8 ∧ t_8 < len s_0) ∧ (house_find_1 (atSet_ s_0 t_8) b_1000 (fun r1 => (if r1 = true then (kr t_8) else (slices_IndexFunc_house_find_1_l2N k0 kr n s_0 t_7 (wI64 (t_8 + 1)) b_1000))))) else k0)
def slices_IndexFunc_house_find_1_l2 (s_0 : List Set_) (t_7 : Int) (t_8 : Int) (b_1000 : ByteArray) (k0 : Prop) (kr : Int → Prop) : Prop := ∃ n, slices_IndexFunc_house_find_1_l2N k0 kr n s_0 t_7 t_8 b_1000
noncomputable def slices_IndexFunc_house_find_1_n_l2 (n : Nat) : Orc := ⟨[0, 0, 1, 0, 1], slices_IndexFunc_house_find_1_s2, fun x Φ => slices_IndexFunc_house_find_1_l2N (Φ (.stop [1, 1] (encS slices_IndexFunc_house_find_1_s1 ()))) (fun rt_4 => Φ (.ret (encS slices_IndexFunc_house_find_1_s0 (rt_4, ())))) n x.1 x.2.1 x.2.2.1 x.2.2.2.1⟩
noncomputable def slices_IndexFunc_house_find_1_o_l2 : Orc := ⟨[0, 0, 1, 0, 1], slices_IndexFunc_house_find_1_s2, fun x Φ => slices_IndexFunc_house_find_1_l2 x.1 x.2.1 x.2.2.1 x.2.2.2.1 (Φ (.stop [1, 1] (encS slices_IndexFunc_house_find_1_s1 ()))) (fun rt_4 => Φ (.ret (encS slices_IndexFunc_house_find_1_s0 (rt_4, ()))))⟩
theorem slices_IndexFunc_house_find_1_l2_eq (n : Nat) (x : sden slices_IndexFunc_house_find_1_s2) (Φ : Out → Prop) : (slices_IndexFunc_house_find_1_n_l2 (n + 1)).X x Φ = run slices_IndexFunc_house_find_1_C [slices_IndexFunc_house_find_1_n_l2 n] [([1, 1], slices_IndexFunc_house_find_1_s1)] 4000 true [0, 0, 1, 0, 1] (encS slices_IndexFunc_house_find_1_s2 x) Φ := by kernel_rfl
theorem slices_IndexFunc_house_find_1_l2_ok : OrcOk slices_IndexFunc_house_find_1_C slices_IndexFunc_house_find_1_o_l2 := orc_loop hm slices_IndexFunc_house_find_1_Γ (on := slices_IndexFunc_house_find_1_n_l2) orc_nil (fun x Φ h => h) slices_IndexFunc_house_find_1_l2_eq (fun x Φ ⟨n, h⟩ => ⟨n, x, h, rfl, rfl⟩)
def slices_IndexFunc_house_find_1 (s_0 : List Set_) (b0 : ByteArray) (K : Int → Prop) : Prop := (slices_IndexFunc_house_find_1_l2 s_0 (len s_0) 0 b0 (K (-1)) (fun rt_4 => (K rt_4)))
noncomputable def fe_slices_IndexFunc_house_find_1 : Fe := ⟨106, [.val (.slice tSet_), .lit (.clos 248 [] [1000])], [.val false 9 .str], [.int .i64], false, none, fun x y K => slices_IndexFunc_house_find_1 x.1 y.1 (fun r => K r (()))⟩
theorem slices_IndexFunc_house_find_1_eq (x) (y) (K) : fe_slices_IndexFunc_house_find_1.X x y K = run slices_IndexFunc_house_find_1_C [slices_IndexFunc_house_find_1_o_l2] [] 4000 true [] (entry [.val (.slice tSet_), .lit (.clos 248 [] [1000])] [.val false 9 .str] x y) (retK Tryz.prog [.tmp 4] [.val false 9 .str] [.int .i64] K) := by kernel_rfl
theorem ok_slices_IndexFunc_house_find_1 : FeOk Tryz.prog fe_slices_IndexFunc_house_find_1 := fe_of_run (C := slices_IndexFunc_house_find_1_C) hm slices_IndexFunc_house_find_1_Γ (orc_cons slices_IndexFunc_house_find_1_l2_ok orc_nil) (fn := Tryz.f106) Tryz.func106 rfl rfl (by kernel_rfl) slices_IndexFunc_house_find_1_eq
/-! loftblock/house.find -/
def house_find_s0 : List Slot := [.reg 4 (.int .i64)]
noncomputable def house_find_C : Ctx := ⟨Tryz.prog, bodyOf Tryz.f197, 9, [fe_slices_IndexFunc_house_find_1], house_find_s0⟩
theorem house_find_Γ : ∀ e ∈ house_find_C.Γ, FeOk house_find_C.P e := (ok_cons ok_slices_IndexFunc_house_find_1 ok_nil)
def house_find (h_0 : House) (name_1 : ByteArray) (K : Int → Prop) : Prop := (slices_IndexFunc_house_find_1 h_0.2.2.1 name_1 (fun r1 => (K r1)))
noncomputable def fe_house_find : Fe := ⟨197, [.val tHouse, .val .str], [], [.int .i64], false, none, fun x y K => house_find x.1 x.2.1 (fun r => K r (()))⟩
theorem house_find_eq (x) (y) (K) : fe_house_find.X x y K = run house_find_C [] [] 4000 true [] (entry [.val tHouse, .val .str] [] x y) (retK Tryz.prog [.tmp 4] [] [.int .i64] K) := by kernel_rfl
theorem ok_house_find : FeOk Tryz.prog fe_house_find := fe_of_run (C := house_find_C) hm house_find_Γ orc_nil (fn := Tryz.f197) Tryz.func197 rfl rfl (by kernel_rfl) house_find_eq
/-! loftblock/house.Valid -/
def house_Valid_s0 : List Slot := [.reg 2 .bool]
noncomputable def house_Valid_C : Ctx := ⟨Tryz.prog, bodyOf Tryz.f140, 58, [fe_decimal_IsName, fe_batten_Valid, fe_house_find, fe_grid_Valid], house_Valid_s0⟩
theorem house_Valid_Γ : ∀ e ∈ house_Valid_C.Γ, FeOk house_Valid_C.P e := (ok_cons ok_decimal_IsName (ok_cons ok_batten_Valid (ok_cons ok_house_find (ok_cons ok_grid_Valid ok_nil))))
def house_Valid_s1 : List Slot := []
def house_Valid_s2 : List Slot := [.ref 1 (.ptr 1 0), .reg 32 (.slice tSet_), .reg 33 (.int .i64), .reg 34 (.int .i64), .box true 1 25 tHouse]
def house_Valid_l3N (k0 : Prop) (kr : Bool → Prop) : Nat → List Set_ → Int → Int → House → Prop
  | 0, _, _, _, _ => False
  | n + 1, t_32, t_33, t_34, h_1 => (if (decide (t_34 < t_33)) = true then ((0 ≤ t_34 ∧ t_34 < len t_32) ∧ (batten_Valid (atSet_ t_32 t_34) (fun r2 => (if (!r2) = true then (kr false) else (if (decide ((atSet_ t_32 t_34).2.2.2.1 > h_1.2.1)) = true then (kr false) else (house_find h_1 (atSet_ t_32 t_34).1 (fun r3 => (if (r3 != t_34) = true then (kr false) else (house_Valid_l3N k0 kr n t_32 t_33 (wI64 (t_34 + 1)) h_1))))))))) else k0)
def house_Valid_l3 (t_32 : List Set_) (t_33 : Int) (t_34 : Int) (h_1 : House) (k0 : Prop) (kr : Bool → Prop) : Prop := ∃ n, house_Valid_l3N k0 kr n t_32 t_33 t_34 h_1
noncomputable def house_Valid_n_l3 (n : Nat) : Orc := ⟨[0, 0, 1, 0, 1, 1], house_Valid_s2, fun x Φ => house_Valid_l3N (Φ (.stop [1, 1, 1] (encS house_Valid_s1 ()))) (fun rt_2 => Φ (.ret (encS house_Valid_s0 (rt_2, ())))) n x.1 x.2.1 x.2.2.1 x.2.2.2.1⟩
noncomputable def house_Valid_o_l3 : Orc := ⟨[0, 0, 1, 0, 1, 1], house_Valid_s2, fun x Φ => house_Valid_l3 x.1 x.2.1 x.2.2.1 x.2.2.2.1 (Φ (.stop [1, 1, 1] (encS house_Valid_s1 ()))) (fun rt_2 => Φ (.ret (encS house_Valid_s0 (rt_2, ()))))⟩
theorem house_Valid_l3_eq (n : Nat) (x : sden house_Valid_s2) (Φ : Out → Prop) : (house_Valid_n_l3 (n + 1)).X x Φ = run house_Valid_C [house_Valid_n_l3 n] [([1, 1, 1], house_Valid_s1)] 4000 true [0, 0, 1, 0, 1, 1] (encS house_Valid_s2 x) Φ := by kernel_rfl
theorem house_Valid_l3_ok : OrcOk house_Valid_C house_Valid_o_l3 := orc_loop hm house_Valid_Γ (on := house_Valid_n_l3) orc_nil (fun x Φ h => h) house_Valid_l3_eq (fun x Φ ⟨n, h⟩ => ⟨n, x, h, rfl, rfl⟩)
def house_Valid_s3 : List Slot := [.ref 1 (.ptr 1 0), .reg 30 .bool, .box true 1 25 tHouse]
def house_Valid_j2 (t_30 : Bool) (h_1 : House) (kr : Bool → Prop) : Prop := (if t_30 = true then (kr false) else (house_Valid_l3 h_1.2.2.1 (len h_1.2.2.1) 0 h_1 (kr true) kr))
noncomputable def house_Valid_o_j2 : Orc := ⟨[1, 0, 1], house_Valid_s3, fun x Φ => house_Valid_j2 x.1 x.2.1 (fun rt_2 => Φ (.ret (encS house_Valid_s0 (rt_2, ()))))⟩
theorem house_Valid_j2_eq (x : sden house_Valid_s3) (Φ : Out → Prop) : house_Valid_o_j2.X x Φ = run house_Valid_C [house_Valid_o_l3] [] 4000 true [1, 0, 1] (encS house_Valid_s3 x) Φ := by kernel_rfl
theorem house_Valid_j2_ok : OrcOk house_Valid_C house_Valid_o_j2 := orc_of_run hm house_Valid_Γ (orc_cons house_Valid_l3_ok orc_nil) house_Valid_j2_eq
def house_Valid (h_0 : House) (K : Bool → Prop) : Prop := (decimal_IsName h_0.1 (fun r1 => (if (!r1) = true then (house_Valid_j2 true h_0 (fun rt_2 => (K rt_2))) else (if (decide (h_0.2.1 < 1)) = true then (house_Valid_j2 true h_0 (fun rt_2 => (K rt_2))) else (if (decide (h_0.2.1 > 1048576)) = true then (house_Valid_j2 true h_0 (fun rt_2 => (K rt_2))) else (if (decide ((len h_0.2.2.1) > 60)) = true then (house_Valid_j2 true h_0 (fun rt_2 => (K rt_2))) else (grid_Valid h_0.2.2.2 (fun r4 => (house_Valid_j2 (!r4) h_0 (fun rt_2 => (K rt_2)))))))))))
noncomputable def fe_house_Valid : Fe := ⟨140, [.val tHouse], [], [.bool], false, none, fun x y K => house_Valid x.1 (fun r => K r (()))⟩
theorem house_Valid_eq (x) (y) (K) : fe_house_Valid.X x y K = run house_Valid_C [house_Valid_o_j2] [] 4000 true [] (entry [.val tHouse] [] x y) (retK Tryz.prog [.tmp 2] [] [.bool] K) := by kernel_rfl
theorem ok_house_Valid : FeOk Tryz.prog fe_house_Valid := fe_of_run (C := house_Valid_C) hm house_Valid_Γ (orc_cons house_Valid_j2_ok orc_nil) (fn := Tryz.f140) Tryz.func140 rfl rfl (by kernel_rfl) house_Valid_eq
/-! loftblock/profile.within -/
def profile_within_s0 : List Slot := [.reg 6 .bool]
noncomputable def profile_within_C : Ctx := ⟨Tryz.prog, bodyOf Tryz.f198, 15, [], profile_within_s0⟩
theorem profile_within_Γ : ∀ e ∈ profile_within_C.Γ, FeOk profile_within_C.P e := ok_nil
def profile_within (n_0 : Int) (lo_1 : Int) (hi_2 : Int) (K : Bool → Prop) : Prop := (if (decide (n_0 ≥ lo_1)) = true then (K (decide (n_0 ≤ hi_2))) else (K false))
noncomputable def fe_profile_within : Fe := ⟨198, [.val (.int .i64), .val (.int .i64), .val (.int .i64)], [], [.bool], false, none, fun x y K => profile_within x.1 x.2.1 x.2.2.1 (fun r => K r (()))⟩
theorem profile_within_eq (x) (y) (K) : fe_profile_within.X x y K = run profile_within_C [] [] 4000 true [] (entry [.val (.int .i64), .val (.int .i64), .val (.int .i64)] [] x y) (retK Tryz.prog [.tmp 6] [] [.bool] K) := by kernel_rfl
theorem ok_profile_within : FeOk Tryz.prog fe_profile_within := fe_of_run (C := profile_within_C) hm profile_within_Γ orc_nil (fn := Tryz.f198) Tryz.func198 rfl rfl (by kernel_rfl) profile_within_eq
/-! loftblock/profile.Valid -/
def profile_Valid_s0 : List Slot := [.reg 2 .bool]
noncomputable def profile_Valid_C : Ctx := ⟨Tryz.prog, bodyOf Tryz.f141, 26, [fe_decimal_IsName, fe_profile_within], profile_Valid_s0⟩
theorem profile_Valid_Γ : ∀ e ∈ profile_Valid_C.Γ, FeOk profile_Valid_C.P e := (ok_cons ok_decimal_IsName (ok_cons ok_profile_within ok_nil))
def profile_Valid (m_0 : Move) (K : Bool → Prop) : Prop := (decimal_IsName m_0.1 (fun r1 => (if r1 = true then (profile_within m_0.2.1 (-1048576) 1048576 (fun r2 => (if r2 = true then (profile_within m_0.2.2.1 1 8192 (fun r3 => (if r3 = true then (profile_within m_0.2.2.2.1 1 16384 (fun r4 => (if r4 = true then (profile_within m_0.2.2.2.2 1 16384 (fun r5 => (K r5))) else (K false)))) else (K false)))) else (K false)))) else (K false))))
noncomputable def fe_profile_Valid : Fe := ⟨141, [.val tMove], [], [.bool], false, none, fun x y K => profile_Valid x.1 (fun r => K r (()))⟩
theorem profile_Valid_eq (x) (y) (K) : fe_profile_Valid.X x y K = run profile_Valid_C [] [] 4000 true [] (entry [.val tMove] [] x y) (retK Tryz.prog [.tmp 2] [] [.bool] K) := by kernel_rfl
theorem ok_profile_Valid : FeOk Tryz.prog fe_profile_Valid := fe_of_run (C := profile_Valid_C) hm profile_Valid_Γ orc_nil (fn := Tryz.f141) Tryz.func141 rfl rfl (by kernel_rfl) profile_Valid_eq
/-! loftblock/move.set$1 -/
def move_set_1_s0 : List Slot := [.reg 3 .bool]
noncomputable def move_set_1_C : Ctx := ⟨Tryz.prog, bodyOf Tryz.f161, 9, [], move_set_1_s0⟩
theorem move_set_1_Γ : ∀ e ∈ move_set_1_C.Γ, FeOk move_set_1_C.P e := ok_nil
def move_set_1 (s_0 : Set_) (b0 : Move) (K : Bool → Prop) : Prop := (K (sEq s_0.1 b0.1))
noncomputable def fe_move_set_1 : Fe := ⟨161, [.val tSet_, .lit (.ptr 1000 0)], [.val false 27 tMove], [.bool], false, none, fun x y K => move_set_1 x.1 y.1 (fun r => K r (()))⟩
theorem move_set_1_eq (x) (y) (K) : fe_move_set_1.X x y K = run move_set_1_C [] [] 4000 true [] (entry [.val tSet_, .lit (.ptr 1000 0)] [.val false 27 tMove] x y) (retK Tryz.prog [.tmp 3] [.val false 27 tMove] [.bool] K) := by kernel_rfl
theorem ok_move_set_1 : FeOk Tryz.prog fe_move_set_1 := fe_of_run (C := move_set_1_C) hm move_set_1_Γ orc_nil (fn := Tryz.f161) Tryz.func161 rfl rfl (by kernel_rfl) move_set_1_eq
/-! slices.IndexFunc[[]loftblock/api.Set,loftblock/api.Set] -/
def slices_IndexFunc_move_set_1_s0 : List Slot := [.reg 4 (.int .i64)]
noncomputable def slices_IndexFunc_move_set_1_C : Ctx := ⟨Tryz.prog, bodyOf Tryz.f106, 19, [fe_move_set_1], slices_IndexFunc_move_set_1_s0⟩
theorem slices_IndexFunc_move_set_1_Γ : ∀ e ∈ slices_IndexFunc_move_set_1_C.Γ, FeOk slices_IndexFunc_move_set_1_C.P e := (ok_cons ok_move_set_1 ok_nil)
def slices_IndexFunc_move_set_1_s1 : List Slot := []
def slices_IndexFunc_move_set_1_s2 : List Slot := [.reg 0 (.slice tSet_), .ref 1 (.clos 161 [] [1000]), .reg 7 (.int .i64), .reg 8 (.int .i64), .box false 1000 27 tMove]
def slices_IndexFunc_move_set_1_l2N (k0 : Prop) (kr : Int → Prop) : Nat → List Set_ → Int → Int → Move → Prop
  | 0, _, _, _, _ => False
  | n + 1, s_0, t_7, t_8, b_1000 => (if (decide (t_8 < t_7)) = true then ((0 ≤ t_8 ∧ t_8 < len s_0) ∧ (move_set_1 (atSet_ s_0 t_8) b_1000 (fun r1 => (if r1 = true then (kr t_8) else (slices_IndexFunc_move_set_1_l2N k0 kr n s_0 t_7 (wI64 (t_8 + 1)) b_1000))))) else k0)
def slices_IndexFunc_move_set_1_l2 (s_0 : List Set_) (t_7 : Int) (t_8 : Int) (b_1000 : Move) (k0 : Prop) (kr : Int → Prop) : Prop := ∃ n, slices_IndexFunc_move_set_1_l2N k0 kr n s_0 t_7 t_8 b_1000
noncomputable def slices_IndexFunc_move_set_1_n_l2 (n : Nat) : Orc := ⟨[0, 0, 1, 0, 1], slices_IndexFunc_move_set_1_s2, fun x Φ => slices_IndexFunc_move_set_1_l2N (Φ (.stop [1, 1] (encS slices_IndexFunc_move_set_1_s1 ()))) (fun rt_4 => Φ (.ret (encS slices_IndexFunc_move_set_1_s0 (rt_4, ())))) n x.1 x.2.1 x.2.2.1 x.2.2.2.1⟩
noncomputable def slices_IndexFunc_move_set_1_o_l2 : Orc := ⟨[0, 0, 1, 0, 1], slices_IndexFunc_move_set_1_s2, fun x Φ => slices_IndexFunc_move_set_1_l2 x.1 x.2.1 x.2.2.1 x.2.2.2.1 (Φ (.stop [1, 1] (encS slices_IndexFunc_move_set_1_s1 ()))) (fun rt_4 => Φ (.ret (encS slices_IndexFunc_move_set_1_s0 (rt_4, ()))))⟩
theorem slices_IndexFunc_move_set_1_l2_eq (n : Nat) (x : sden slices_IndexFunc_move_set_1_s2) (Φ : Out → Prop) : (slices_IndexFunc_move_set_1_n_l2 (n + 1)).X x Φ = run slices_IndexFunc_move_set_1_C [slices_IndexFunc_move_set_1_n_l2 n] [([1, 1], slices_IndexFunc_move_set_1_s1)] 4000 true [0, 0, 1, 0, 1] (encS slices_IndexFunc_move_set_1_s2 x) Φ := by kernel_rfl
theorem slices_IndexFunc_move_set_1_l2_ok : OrcOk slices_IndexFunc_move_set_1_C slices_IndexFunc_move_set_1_o_l2 := orc_loop hm slices_IndexFunc_move_set_1_Γ (on := slices_IndexFunc_move_set_1_n_l2) orc_nil (fun x Φ h => h) slices_IndexFunc_move_set_1_l2_eq (fun x Φ ⟨n, h⟩ => ⟨n, x, h, rfl, rfl⟩)
def slices_IndexFunc_move_set_1 (s_0 : List Set_) (b0 : Move) (K : Int → Prop) : Prop := (slices_IndexFunc_move_set_1_l2 s_0 (len s_0) 0 b0 (K (-1)) (fun rt_4 => (K rt_4)))
noncomputable def fe_slices_IndexFunc_move_set_1 : Fe := ⟨106, [.val (.slice tSet_), .lit (.clos 161 [] [1000])], [.val false 27 tMove], [.int .i64], false, none, fun x y K => slices_IndexFunc_move_set_1 x.1 y.1 (fun r => K r (()))⟩
theorem slices_IndexFunc_move_set_1_eq (x) (y) (K) : fe_slices_IndexFunc_move_set_1.X x y K = run slices_IndexFunc_move_set_1_C [slices_IndexFunc_move_set_1_o_l2] [] 4000 true [] (entry [.val (.slice tSet_), .lit (.clos 161 [] [1000])] [.val false 27 tMove] x y) (retK Tryz.prog [.tmp 4] [.val false 27 tMove] [.int .i64] K) := by kernel_rfl
theorem ok_slices_IndexFunc_move_set_1 : FeOk Tryz.prog fe_slices_IndexFunc_move_set_1 := fe_of_run (C := slices_IndexFunc_move_set_1_C) hm slices_IndexFunc_move_set_1_Γ (orc_cons slices_IndexFunc_move_set_1_l2_ok orc_nil) (fn := Tryz.f106) Tryz.func106 rfl rfl (by kernel_rfl) slices_IndexFunc_move_set_1_eq
/-! loftblock/move.set -/
def move_set_s0 : List Slot := [.ref 4 (.ptr 4 0), .box true 4 54 tSet_, .reg 5 (.int .i64)]
noncomputable def move_set_C : Ctx := ⟨Tryz.prog, bodyOf Tryz.f94, 28, [fe_house_Valid, fe_slices_IndexFunc_move_set_1, fe_profile_Valid], move_set_s0⟩
theorem move_set_Γ : ∀ e ∈ move_set_C.Γ, FeOk move_set_C.P e := (ok_cons ok_house_Valid (ok_cons ok_slices_IndexFunc_move_set_1 (ok_cons ok_profile_Valid ok_nil)))
def move_set_s1 : List Slot := [.ref 2 (.ptr 2 0), .ref 3 (.ptr 3 0), .ref 4 (.ptr 4 0), .reg 14 .bool, .box true 2 25 tHouse, .box true 3 27 tMove, .box true 4 54 tSet_]
def move_set_j2 (t_14 : Bool) (h_2 : House) (m_3 : Move) (b_4 : Set_) (kr : Set_ → Int → Prop) : Prop := (if t_14 = true then (kr (sNil, 0, 0, 0, 0, [], 0, 0, 0, 0, 0, [], []) 1) else (slices_IndexFunc_move_set_1 h_2.2.2.1 m_3 (fun r2 => (if (decide (r2 < 0)) = true then (kr (sNil, 0, 0, 0, 0, [], 0, 0, 0, 0, 0, [], []) 9) else ((0 ≤ r2 ∧ r2 < len h_2.2.2.1) ∧ (kr (atSet_ h_2.2.2.1 r2) 0))))))
noncomputable def move_set_o_j2 : Orc := ⟨[1, 0, 1], move_set_s1, fun x Φ => move_set_j2 x.1 x.2.1 x.2.2.1 x.2.2.2.1 (fun rb_4 rt_5 => Φ (.ret (encS move_set_s0 (rb_4, rt_5, ()))))⟩
theorem move_set_j2_eq (x : sden move_set_s1) (Φ : Out → Prop) : move_set_o_j2.X x Φ = run move_set_C [] [] 4000 true [1, 0, 1] (encS move_set_s1 x) Φ := by kernel_rfl
theorem move_set_j2_ok : OrcOk move_set_C move_set_o_j2 := orc_of_run hm move_set_Γ orc_nil move_set_j2_eq
def move_set (h_0 : House) (m_1 : Move) (K : (Set_ × Int) → Prop) : Prop := (house_Valid h_0 (fun r1 => (if (!r1) = true then (move_set_j2 true h_0 m_1 (sNil, 0, 0, 0, 0, [], 0, 0, 0, 0, 0, [], []) (fun rb_4 rt_5 => (K (rb_4, rt_5)))) else (profile_Valid m_1 (fun r3 => (move_set_j2 (!r3) h_0 m_1 (sNil, 0, 0, 0, 0, [], 0, 0, 0, 0, 0, [], []) (fun rb_4 rt_5 => (K (rb_4, rt_5)))))))))
noncomputable def fe_move_set : Fe := ⟨94, [.val tHouse, .val tMove], [], [tSet_, .int .i64], true, none, fun x y K => move_set x.1 x.2.1 (fun r => K r (()))⟩
theorem move_set_eq (x) (y) (K) : fe_move_set.X x y K = run move_set_C [move_set_o_j2] [] 4000 true [] (entry [.val tHouse, .val tMove] [] x y) (retK Tryz.prog [.cell 4 54, .tmp 5] [] [tSet_, .int .i64] K) := by kernel_rfl
theorem ok_move_set : FeOk Tryz.prog fe_move_set := fe_of_run (C := move_set_C) hm move_set_Γ (orc_cons move_set_j2_ok orc_nil) (fn := Tryz.f94) Tryz.func94 rfl rfl (by kernel_rfl) move_set_eq
/-! loftblock/move.reaches -/
def move_reaches_s0 : List Slot := [.reg 4 .bool]
noncomputable def move_reaches_C : Ctx := ⟨Tryz.prog, bodyOf Tryz.f95, 15, [], move_reaches_s0⟩
theorem move_reaches_Γ : ∀ e ∈ move_reaches_C.Γ, FeOk move_reaches_C.P e := ok_nil
def move_reaches (s_0 : Set_) (z_1 : Int) (K : Bool → Prop) : Prop := (if (decide (z_1 ≥ s_0.2.2.1)) = true then (K (decide (z_1 ≤ s_0.2.2.2.1))) else (K false))
noncomputable def fe_move_reaches : Fe := ⟨95, [.val tSet_, .val (.int .i64)], [], [.bool], false, none, fun x y K => move_reaches x.1 x.2.1 (fun r => K r (()))⟩
theorem move_reaches_eq (x) (y) (K) : fe_move_reaches.X x y K = run move_reaches_C [] [] 4000 true [] (entry [.val tSet_, .val (.int .i64)] [] x y) (retK Tryz.prog [.tmp 4] [] [.bool] K) := by kernel_rfl
theorem ok_move_reaches : FeOk Tryz.prog fe_move_reaches := fe_of_run (C := move_reaches_C) hm move_reaches_Γ orc_nil (fn := Tryz.f95) Tryz.func95 rfl rfl (by kernel_rfl) move_reaches_eq
/-! loftblock/move.given -/
def move_given_s0 : List Slot := [.reg 6 (.int .i64), .reg 7 (.int .i64)]
noncomputable def move_given_C : Ctx := ⟨Tryz.prog, bodyOf Tryz.f89, 41, [fe_move_set, fe_move_reaches], move_given_s0⟩
theorem move_given_Γ : ∀ e ∈ move_given_C.Γ, FeOk move_given_C.P e := (ok_cons ok_move_set (ok_cons ok_move_reaches ok_nil))
def move_given_s1 : List Slot := [.reg 1 (.int .i64), .ref 5 (.ptr 5 0), .reg 20 .bool, .box true 5 27 tMove]
def move_given_j2 (from_1 : Int) (t_20 : Bool) (m_5 : Move) (kr : Int → Int → Prop) : Prop := (if t_20 = true then (kr 0 2) else (kr (iMax (wI64 (m_5.2.1 - from_1)) (wI64 (from_1 - m_5.2.1))) 0))
noncomputable def move_given_o_j2 : Orc := ⟨[1, 1, 1, 0, 0, 1, 1], move_given_s1, fun x Φ => move_given_j2 x.1 x.2.1 x.2.2.1 (fun rt_6 rt_7 => Φ (.ret (encS move_given_s0 (rt_6, rt_7, ()))))⟩
theorem move_given_j2_eq (x : sden move_given_s1) (Φ : Out → Prop) : move_given_o_j2.X x Φ = run move_given_C [] [] 4000 true [1, 1, 1, 0, 0, 1, 1] (encS move_given_s1 x) Φ := by kernel_rfl
theorem move_given_j2_ok : OrcOk move_given_C move_given_o_j2 := orc_of_run hm move_given_Γ orc_nil move_given_j2_eq
def move_given (h_0 : House) (from_1 : Int) (m_2 : Move) (K : Frac → Prop) : Prop := (move_set h_0 m_2 (fun r1 => (if (r1.2 != 0) = true then (K (0, r1.2)) else (move_reaches r1.1 from_1 (fun r2 => (if (!r2) = true then (move_given_j2 from_1 true m_2 (fun rt_6 rt_7 => (K (rt_6, rt_7)))) else (move_reaches r1.1 m_2.2.1 (fun r3 => (move_given_j2 from_1 (!r3) m_2 (fun rt_6 rt_7 => (K (rt_6, rt_7))))))))))))
noncomputable def fe_move_given : Fe := ⟨89, [.val tHouse, .val (.int .i64), .val tMove], [], [.int .i64, .int .i64], false, none, fun x y K => move_given x.1 x.2.1 x.2.2.1 (fun r => K r (()))⟩
theorem move_given_eq (x) (y) (K) : fe_move_given.X x y K = run move_given_C [move_given_o_j2] [] 4000 true [] (entry [.val tHouse, .val (.int .i64), .val tMove] [] x y) (retK Tryz.prog [.tmp 6, .tmp 7] [] [.int .i64, .int .i64] K) := by kernel_rfl
theorem ok_move_given : FeOk Tryz.prog fe_move_given := fe_of_run (C := move_given_C) hm move_given_Γ (orc_cons move_given_j2_ok orc_nil) (fn := Tryz.f89) Tryz.func89 rfl rfl (by kernel_rfl) move_given_eq
/-! loftblock/profile.given -/
def profile_given_s0 : List Slot := [.reg 4 (.int .i64)]
noncomputable def profile_given_C : Ctx := ⟨Tryz.prog, bodyOf Tryz.f155, 13, [fe_profile_Valid, fe_profile_within], profile_given_s0⟩
theorem profile_given_Γ : ∀ e ∈ profile_given_C.Γ, FeOk profile_given_C.P e := (ok_cons ok_profile_Valid (ok_cons ok_profile_within ok_nil))
def profile_given (d_0 : Int) (m_1 : Move) (K : Int → Prop) : Prop := (profile_Valid m_1 (fun r1 => (if (!r1) = true then (K 1) else (profile_within d_0 0 1048576 (fun r2 => (if (!r2) = true then (K 2) else (K 0)))))))
noncomputable def fe_profile_given : Fe := ⟨155, [.val (.int .i64), .val tMove], [], [.int .i64], false, none, fun x y K => profile_given x.1 x.2.1 (fun r => K r (()))⟩
theorem profile_given_eq (x) (y) (K) : fe_profile_given.X x y K = run profile_given_C [] [] 4000 true [] (entry [.val (.int .i64), .val tMove] [] x y) (retK Tryz.prog [.tmp 4] [] [.int .i64] K) := by kernel_rfl
theorem ok_profile_given : FeOk Tryz.prog fe_profile_given := fe_of_run (C := profile_given_C) hm profile_given_Γ orc_nil (fn := Tryz.f155) Tryz.func155 rfl rfl (by kernel_rfl) profile_given_eq
/-! loftblock/profile.top -/
def profile_top_s0 : List Slot := [.reg 4 (.int .i64)]
noncomputable def profile_top_C : Ctx := ⟨Tryz.prog, bodyOf Tryz.f156, 42, [], profile_top_s0⟩
theorem profile_top_Γ : ∀ e ∈ profile_top_C.Γ, FeOk profile_top_C.P e := ok_nil
def profile_top_s1 : List Slot := [.reg 5 (.int .i64)]
def profile_top_s2 : List Slot := [.reg 0 (.int .i64), .ref 3 (.ptr 3 0), .reg 5 (.int .i64), .reg 6 (.int .i64), .box true 3 27 tMove]
def profile_top_l2N (k0 : Int → Prop) : Nat → Int → Int → Int → Move → Prop
  | 0, _, _, _, _ => False
  | n + 1, d_0, lo_5, hi_6, m_3 => (if (decide (lo_5 < hi_6)) = true then (if (decide ((wI64 ((wI64 ((wI64 (Int.tdiv (wI64 ((wI64 (lo_5 + hi_6)) + 1)) 2)) * (wI64 (Int.tdiv (wI64 ((wI64 (lo_5 + hi_6)) + 1)) 2)))) * (wI64 (m_3.2.2.2.1 + m_3.2.2.2.2)))) ≤ (wI64 ((wI64 ((wI64 (2 * d_0)) * m_3.2.2.2.1)) * m_3.2.2.2.2)))) = true then (profile_top_l2N k0 n d_0 (wI64 (Int.tdiv (wI64 ((wI64 (lo_5 + hi_6)) + 1)) 2)) hi_6 m_3) else (profile_top_l2N k0 n d_0 lo_5 (wI64 ((wI64 (Int.tdiv (wI64 ((wI64 (lo_5 + hi_6)) + 1)) 2)) - 1)) m_3)) else (k0 lo_5))
def profile_top_l2 (d_0 : Int) (lo_5 : Int) (hi_6 : Int) (m_3 : Move) (k0 : Int → Prop) : Prop := ∃ n, profile_top_l2N k0 n d_0 lo_5 hi_6 m_3
noncomputable def profile_top_n_l2 (n : Nat) : Orc := ⟨[0, 0, 0, 1, 1, 1], profile_top_s2, fun x Φ => profile_top_l2N (fun lo_5 => Φ (.stop [1, 1, 1, 1] (encS profile_top_s1 (lo_5, ())))) n x.1 x.2.1 x.2.2.1 x.2.2.2.1⟩
noncomputable def profile_top_o_l2 : Orc := ⟨[0, 0, 0, 1, 1, 1], profile_top_s2, fun x Φ => profile_top_l2 x.1 x.2.1 x.2.2.1 x.2.2.2.1 (fun lo_5 => Φ (.stop [1, 1, 1, 1] (encS profile_top_s1 (lo_5, ()))))⟩
theorem profile_top_l2_eq (n : Nat) (x : sden profile_top_s2) (Φ : Out → Prop) : (profile_top_n_l2 (n + 1)).X x Φ = run profile_top_C [profile_top_n_l2 n] [([1, 1, 1, 1], profile_top_s1)] 4000 true [0, 0, 0, 1, 1, 1] (encS profile_top_s2 x) Φ := by kernel_rfl
theorem profile_top_l2_ok : OrcOk profile_top_C profile_top_o_l2 := orc_loop hm profile_top_Γ (on := profile_top_n_l2) orc_nil (fun x Φ h => h) profile_top_l2_eq (fun x Φ ⟨n, h⟩ => ⟨n, x, h, rfl, rfl⟩)
def profile_top (d_0 : Int) (m_1 : Move) (K : Int → Prop) : Prop := (if (d_0 == 0) = true then (K 0) else (profile_top_l2 d_0 0 m_1.2.2.1 m_1 (fun lo_5 => (K lo_5))))
noncomputable def fe_profile_top : Fe := ⟨156, [.val (.int .i64), .val tMove], [], [.int .i64], false, none, fun x y K => profile_top x.1 x.2.1 (fun r => K r (()))⟩
theorem profile_top_eq (x) (y) (K) : fe_profile_top.X x y K = run profile_top_C [profile_top_o_l2] [] 4000 true [] (entry [.val (.int .i64), .val tMove] [] x y) (retK Tryz.prog [.tmp 4] [] [.int .i64] K) := by kernel_rfl
theorem ok_profile_top : FeOk Tryz.prog fe_profile_top := fe_of_run (C := profile_top_C) hm profile_top_Γ (orc_cons profile_top_l2_ok orc_nil) (fn := Tryz.f156) Tryz.func156 rfl rfl (by kernel_rfl) profile_top_eq
/-! loftblock/ratio.size -/
def ratio_size_s0 : List Slot := [.reg 2 (.int .u64)]
noncomputable def ratio_size_C : Ctx := ⟨Tryz.prog, bodyOf Tryz.f143, 10, [], ratio_size_s0⟩
theorem ratio_size_Γ : ∀ e ∈ ratio_size_C.Γ, FeOk ratio_size_C.P e := ok_nil
def ratio_size (n_0 : Int) (K : Int → Prop) : Prop := (if (decide (n_0 < 0)) = true then (K (wU64 (0 - (wU64 (n_0))))) else (K (wU64 (n_0))))
noncomputable def fe_ratio_size : Fe := ⟨143, [.val (.int .i64)], [], [.int .u64], false, none, fun x y K => ratio_size x.1 (fun r => K r (()))⟩
theorem ratio_size_eq (x) (y) (K) : fe_ratio_size.X x y K = run ratio_size_C [] [] 4000 true [] (entry [.val (.int .i64)] [] x y) (retK Tryz.prog [.tmp 2] [] [.int .u64] K) := by kernel_rfl
theorem ok_ratio_size : FeOk Tryz.prog fe_ratio_size := fe_of_run (C := ratio_size_C) hm ratio_size_Γ orc_nil (fn := Tryz.f143) Tryz.func143 rfl rfl (by kernel_rfl) ratio_size_eq
/-! loftblock/ratio.gcd -/
def ratio_gcd_s0 : List Slot := [.reg 4 (.int .u64)]
noncomputable def ratio_gcd_C : Ctx := ⟨Tryz.prog, bodyOf Tryz.f142, 12, [], ratio_gcd_s0⟩
theorem ratio_gcd_Γ : ∀ e ∈ ratio_gcd_C.Γ, FeOk ratio_gcd_C.P e := ok_nil
def ratio_gcd_s1 : List Slot := [.reg 0 (.int .u64)]
def ratio_gcd_s2 : List Slot := [.reg 0 (.int .u64), .reg 1 (.int .u64)]
def ratio_gcd_l2N (k0 : Int → Prop) : Nat → Int → Int → Prop
  | 0, _, _ => False
  | n + 1, a_0, b_1 => (if (b_1 != 0) = true then (if b_1 = 0 then False else (ratio_gcd_l2N k0 n b_1 (Int.tmod a_0 b_1))) else (k0 a_0))
def ratio_gcd_l2 (a_0 : Int) (b_1 : Int) (k0 : Int → Prop) : Prop := ∃ n, ratio_gcd_l2N k0 n a_0 b_1
noncomputable def ratio_gcd_n_l2 (n : Nat) : Orc := ⟨[0, 0, 0, 1], ratio_gcd_s2, fun x Φ => ratio_gcd_l2N (fun a_0 => Φ (.stop [1, 1] (encS ratio_gcd_s1 (a_0, ())))) n x.1 x.2.1⟩
noncomputable def ratio_gcd_o_l2 : Orc := ⟨[0, 0, 0, 1], ratio_gcd_s2, fun x Φ => ratio_gcd_l2 x.1 x.2.1 (fun a_0 => Φ (.stop [1, 1] (encS ratio_gcd_s1 (a_0, ()))))⟩
theorem ratio_gcd_l2_eq (n : Nat) (x : sden ratio_gcd_s2) (Φ : Out → Prop) : (ratio_gcd_n_l2 (n + 1)).X x Φ = run ratio_gcd_C [ratio_gcd_n_l2 n] [([1, 1], ratio_gcd_s1)] 4000 true [0, 0, 0, 1] (encS ratio_gcd_s2 x) Φ := by kernel_rfl
theorem ratio_gcd_l2_ok : OrcOk ratio_gcd_C ratio_gcd_o_l2 := orc_loop hm ratio_gcd_Γ (on := ratio_gcd_n_l2) orc_nil (fun x Φ h => h) ratio_gcd_l2_eq (fun x Φ ⟨n, h⟩ => ⟨n, x, h, rfl, rfl⟩)
def ratio_gcd (a_0 : Int) (b_1 : Int) (K : Int → Prop) : Prop := (ratio_gcd_l2 a_0 b_1 (fun a_0 => (K a_0)))
noncomputable def fe_ratio_gcd : Fe := ⟨142, [.val (.int .u64), .val (.int .u64)], [], [.int .u64], false, none, fun x y K => ratio_gcd x.1 x.2.1 (fun r => K r (()))⟩
theorem ratio_gcd_eq (x) (y) (K) : fe_ratio_gcd.X x y K = run ratio_gcd_C [ratio_gcd_o_l2] [] 4000 true [] (entry [.val (.int .u64), .val (.int .u64)] [] x y) (retK Tryz.prog [.tmp 4] [] [.int .u64] K) := by kernel_rfl
theorem ok_ratio_gcd : FeOk Tryz.prog fe_ratio_gcd := fe_of_run (C := ratio_gcd_C) hm ratio_gcd_Γ (orc_cons ratio_gcd_l2_ok orc_nil) (fn := Tryz.f142) Tryz.func142 rfl rfl (by kernel_rfl) ratio_gcd_eq
/-! loftblock/ratio.signed -/
def ratio_signed_s0 : List Slot := [.ref 6 (.ptr 6 0), .box true 6 29 tFrac, .reg 7 (.int .i64)]
noncomputable def ratio_signed_C : Ctx := ⟨Tryz.prog, bodyOf Tryz.f145, 25, [], ratio_signed_s0⟩
theorem ratio_signed_Γ : ∀ e ∈ ratio_signed_C.Γ, FeOk ratio_signed_C.P e := ok_nil
def ratio_signed_s1 : List Slot := [.reg 0 .bool, .reg 1 (.int .u64), .reg 2 (.int .u64), .ref 6 (.ptr 6 0), .reg 14 .bool, .box true 6 29 tFrac]
def ratio_signed_j2 (negative_0 : Bool) (num_1 : Int) (den_2 : Int) (t_14 : Bool) (b_6 : Frac) (kr : Frac → Int → Prop) : Prop := (if t_14 = true then (kr (0, 0) 5) else (if negative_0 = true then (kr ((wI64 (0 - (wI64 (num_1)))), (wI64 (den_2))) 0) else (kr ((wI64 (num_1)), (wI64 (den_2))) 0)))
noncomputable def ratio_signed_o_j2 : Orc := ⟨[1, 0, 1], ratio_signed_s1, fun x Φ => ratio_signed_j2 x.1 x.2.1 x.2.2.1 x.2.2.2.1 x.2.2.2.2.1 (fun rb_6 rt_7 => Φ (.ret (encS ratio_signed_s0 (rb_6, rt_7, ()))))⟩
theorem ratio_signed_j2_eq (x : sden ratio_signed_s1) (Φ : Out → Prop) : ratio_signed_o_j2.X x Φ = run ratio_signed_C [] [] 4000 true [1, 0, 1] (encS ratio_signed_s1 x) Φ := by kernel_rfl
theorem ratio_signed_j2_ok : OrcOk ratio_signed_C ratio_signed_o_j2 := orc_of_run hm ratio_signed_Γ orc_nil ratio_signed_j2_eq
def ratio_signed (negative_0 : Bool) (num_1 : Int) (den_2 : Int) (K : (Frac × Int) → Prop) : Prop := (if (decide (num_1 > 1152921504606846976)) = true then (ratio_signed_j2 negative_0 num_1 den_2 true (0, 0) (fun rb_6 rt_7 => (K (rb_6, rt_7)))) else (ratio_signed_j2 negative_0 num_1 den_2 (decide (den_2 > 1152921504606846976)) (0, 0) (fun rb_6 rt_7 => (K (rb_6, rt_7)))))
noncomputable def fe_ratio_signed : Fe := ⟨145, [.val .bool, .val (.int .u64), .val (.int .u64)], [], [tFrac, .int .i64], false, none, fun x y K => ratio_signed x.1 x.2.1 x.2.2.1 (fun r => K r (()))⟩
theorem ratio_signed_eq (x) (y) (K) : fe_ratio_signed.X x y K = run ratio_signed_C [ratio_signed_o_j2] [] 4000 true [] (entry [.val .bool, .val (.int .u64), .val (.int .u64)] [] x y) (retK Tryz.prog [.cell 6 29, .tmp 7] [] [tFrac, .int .i64] K) := by kernel_rfl
theorem ok_ratio_signed : FeOk Tryz.prog fe_ratio_signed := fe_of_run (C := ratio_signed_C) hm ratio_signed_Γ (orc_cons ratio_signed_j2_ok orc_nil) (fn := Tryz.f145) Tryz.func145 rfl rfl (by kernel_rfl) ratio_signed_eq
/-! loftblock/ratio.Make -/
def ratio_Make_s0 : List Slot := [.ref 4 (.ptr 4 0), .box true 4 29 tFrac, .reg 5 (.int .i64)]
noncomputable def ratio_Make_C : Ctx := ⟨Tryz.prog, bodyOf Tryz.f113, 37, [fe_ratio_size, fe_ratio_gcd, fe_ratio_signed], ratio_Make_s0⟩
theorem ratio_Make_Γ : ∀ e ∈ ratio_Make_C.Γ, FeOk ratio_Make_C.P e := (ok_cons ok_ratio_size (ok_cons ok_ratio_gcd (ok_cons ok_ratio_signed ok_nil)))
def ratio_Make (num_0 : Int) (den_1 : Int) (K : (Frac × Int) → Prop) : Prop := (if (den_1 == 0) = true then (K ((0, 0), 16)) else (ratio_size num_0 (fun r1 => (ratio_size den_1 (fun r2 => (ratio_gcd r1 r2 (fun r3 => (if (num_0 != 0) = true then (if r3 = 0 then False else (if r3 = 0 then False else (ratio_signed (!((decide (num_0 < 0)) == (decide (den_1 < 0)))) (wU64 (Int.tdiv r1 r3)) (wU64 (Int.tdiv r2 r3)) (fun r4 => (K (r4.1, r4.2)))))) else (if r3 = 0 then False else (if r3 = 0 then False else (ratio_signed false (wU64 (Int.tdiv r1 r3)) (wU64 (Int.tdiv r2 r3)) (fun r5 => (K (r5.1, r5.2))))))))))))))
noncomputable def fe_ratio_Make : Fe := ⟨113, [.val (.int .i64), .val (.int .i64)], [], [tFrac, .int .i64], false, none, fun x y K => ratio_Make x.1 x.2.1 (fun r => K r (()))⟩
theorem ratio_Make_eq (x) (y) (K) : fe_ratio_Make.X x y K = run ratio_Make_C [] [] 4000 true [] (entry [.val (.int .i64), .val (.int .i64)] [] x y) (retK Tryz.prog [.cell 4 29, .tmp 5] [] [tFrac, .int .i64] K) := by kernel_rfl
theorem ok_ratio_Make : FeOk Tryz.prog fe_ratio_Make := fe_of_run (C := ratio_Make_C) hm ratio_Make_Γ orc_nil (fn := Tryz.f113) Tryz.func113 rfl rfl (by kernel_rfl) ratio_Make_eq
/-! loftblock/profile.Curve$1 -/
def profile_Curve_1_s0 : List Slot := [.ref 5 (.ptr 5 0), .box true 5 29 tFrac, .box true 1000 32 (.int .i64)]
noncomputable def profile_Curve_1_C : Ctx := ⟨Tryz.prog, bodyOf Tryz.f157, 14, [], profile_Curve_1_s0⟩
theorem profile_Curve_1_Γ : ∀ e ∈ profile_Curve_1_C.Γ, FeOk profile_Curve_1_C.P e := ok_nil
def profile_Curve_1 (x_0 : Frac) (e_1 : Int) (b0 : Int) (K : Frac → Int → Prop) : Prop := (if (e_1 != 0) = true then (if (b0 == 0) = true then (K x_0 e_1) else (K x_0 b0)) else (K x_0 b0))
noncomputable def fe_profile_Curve_1 : Fe := ⟨157, [.val tFrac, .val (.int .i64), .lit (.ptr 1000 0)], [.val true 32 (.int .i64)], [tFrac], false, none, fun x y K => profile_Curve_1 x.1 x.2.1 y.1 (fun r o0 => K r (o0, ()))⟩
theorem profile_Curve_1_eq (x) (y) (K) : fe_profile_Curve_1.X x y K = run profile_Curve_1_C [] [] 4000 true [] (entry [.val tFrac, .val (.int .i64), .lit (.ptr 1000 0)] [.val true 32 (.int .i64)] x y) (retK Tryz.prog [.cell 5 29] [.val true 32 (.int .i64)] [tFrac] K) := by kernel_rfl
theorem ok_profile_Curve_1 : FeOk Tryz.prog fe_profile_Curve_1 := fe_of_run (C := profile_Curve_1_C) hm profile_Curve_1_Γ orc_nil (fn := Tryz.f157) Tryz.func157 rfl rfl (by kernel_rfl) profile_Curve_1_eq
/-! loftblock/profile.Curve$3 -/
def profile_Curve_3_s0 : List Slot := [.ref 5 (.ptr 5 0), .box true 5 29 tFrac, .box true 1001 32 (.int .i64)]
noncomputable def profile_Curve_3_C : Ctx := ⟨Tryz.prog, bodyOf Tryz.f159, 13, [fe_ratio_Make, fe_profile_Curve_1], profile_Curve_3_s0⟩
theorem profile_Curve_3_Γ : ∀ e ∈ profile_Curve_3_C.Γ, FeOk profile_Curve_3_C.P e := (ok_cons ok_ratio_Make (ok_cons ok_profile_Curve_1 ok_nil))
def profile_Curve_3 (n_0 : Int) (d_1 : Int) (b1 : Int) (K : Frac → Int → Prop) : Prop := (ratio_Make n_0 d_1 (fun r1 => (profile_Curve_1 r1.1 r1.2 b1 (fun r2 o3 => (K r2 o3)))))
noncomputable def fe_profile_Curve_3 : Fe := ⟨159, [.val (.int .i64), .val (.int .i64), .lit (.ptr 1000 0)], [.lit 222 [.clos 157 [] [1001]], .val true 32 (.int .i64)], [tFrac], false, none, fun x y K => profile_Curve_3 x.1 x.2.1 y.1 (fun r o0 => K r (o0, ()))⟩
theorem profile_Curve_3_eq (x) (y) (K) : fe_profile_Curve_3.X x y K = run profile_Curve_3_C [] [] 4000 true [] (entry [.val (.int .i64), .val (.int .i64), .lit (.ptr 1000 0)] [.lit 222 [.clos 157 [] [1001]], .val true 32 (.int .i64)] x y) (retK Tryz.prog [.cell 5 29] [.lit 222 [.clos 157 [] [1001]], .val true 32 (.int .i64)] [tFrac] K) := by kernel_rfl
theorem ok_profile_Curve_3 : FeOk Tryz.prog fe_profile_Curve_3 := fe_of_run (C := profile_Curve_3_C) hm profile_Curve_3_Γ orc_nil (fn := Tryz.f159) Tryz.func159 rfl rfl (by kernel_rfl) profile_Curve_3_eq
/-! loftblock/profile.Curve$2 -/
def profile_Curve_2_s0 : List Slot := [.ref 2 (.ptr 2 0), .box true 2 29 tFrac]
noncomputable def profile_Curve_2_C : Ctx := ⟨Tryz.prog, bodyOf Tryz.f158, 5, [], profile_Curve_2_s0⟩
theorem profile_Curve_2_Γ : ∀ e ∈ profile_Curve_2_C.Γ, FeOk profile_Curve_2_C.P e := ok_nil
def profile_Curve_2 (n_0 : Int) (K : Frac → Prop) : Prop := (K (n_0, 1))
noncomputable def fe_profile_Curve_2 : Fe := ⟨158, [.val (.int .i64)], [], [tFrac], false, none, fun x y K => profile_Curve_2 x.1 (fun r => K r (()))⟩
theorem profile_Curve_2_eq (x) (y) (K) : fe_profile_Curve_2.X x y K = run profile_Curve_2_C [] [] 4000 true [] (entry [.val (.int .i64)] [] x y) (retK Tryz.prog [.cell 2 29] [] [tFrac] K) := by kernel_rfl
theorem ok_profile_Curve_2 : FeOk Tryz.prog fe_profile_Curve_2 := fe_of_run (C := profile_Curve_2_C) hm profile_Curve_2_Γ orc_nil (fn := Tryz.f158) Tryz.func158 rfl rfl (by kernel_rfl) profile_Curve_2_eq
/-! loftblock/ratio.Valid -/
def ratio_Valid_s0 : List Slot := [.reg 2 .bool]
noncomputable def ratio_Valid_C : Ctx := ⟨Tryz.prog, bodyOf Tryz.f125, 31, [fe_ratio_size, fe_ratio_gcd], ratio_Valid_s0⟩
theorem ratio_Valid_Γ : ∀ e ∈ ratio_Valid_C.Γ, FeOk ratio_Valid_C.P e := (ok_cons ok_ratio_size (ok_cons ok_ratio_gcd ok_nil))
def ratio_Valid (a_0 : Frac) (K : Bool → Prop) : Prop := (if (decide (a_0.2 ≥ 1)) = true then (if (decide (a_0.2 ≤ 1152921504606846976)) = true then (if (decide (a_0.1 ≥ (-1152921504606846976))) = true then (if (decide (a_0.1 ≤ 1152921504606846976)) = true then (ratio_size a_0.1 (fun r1 => (ratio_gcd r1 (wU64 (a_0.2)) (fun r2 => (K (r2 == 1)))))) else (K false)) else (K false)) else (K false)) else (K false))
noncomputable def fe_ratio_Valid : Fe := ⟨125, [.val tFrac], [], [.bool], false, none, fun x y K => ratio_Valid x.1 (fun r => K r (()))⟩
theorem ratio_Valid_eq (x) (y) (K) : fe_ratio_Valid.X x y K = run ratio_Valid_C [] [] 4000 true [] (entry [.val tFrac] [] x y) (retK Tryz.prog [.tmp 2] [] [.bool] K) := by kernel_rfl
theorem ok_ratio_Valid : FeOk Tryz.prog fe_ratio_Valid := fe_of_run (C := ratio_Valid_C) hm ratio_Valid_Γ orc_nil (fn := Tryz.f125) Tryz.func125 rfl rfl (by kernel_rfl) ratio_Valid_eq
/-! math/bits.Mul64 -/
def bits_Mul64_s0 : List Slot := [.reg 4 (.int .u64), .reg 5 (.int .u64)]
noncomputable def bits_Mul64_C : Ctx := ⟨Tryz.prog, bodyOf Tryz.f199, 51, [], bits_Mul64_s0⟩
theorem bits_Mul64_Γ : ∀ e ∈ bits_Mul64_C.Γ, FeOk bits_Mul64_C.P e := ok_nil
def bits_Mul64 (x_0 : Int) (y_1 : Int) (K : U → Prop) : Prop := (K ((wU64 ((wU64 ((wU64 ((Int.fdiv x_0 (2 ^ 32)) * (Int.fdiv y_1 (2 ^ 32)))) + (Int.fdiv (wU64 ((wU64 ((Int.fdiv x_0 (2 ^ 32)) * (bAnd .u64 y_1 4294967295))) + (Int.fdiv (wU64 ((bAnd .u64 x_0 4294967295) * (bAnd .u64 y_1 4294967295))) (2 ^ 32)))) (2 ^ 32)))) + (Int.fdiv (wU64 ((bAnd .u64 (wU64 ((wU64 ((Int.fdiv x_0 (2 ^ 32)) * (bAnd .u64 y_1 4294967295))) + (Int.fdiv (wU64 ((bAnd .u64 x_0 4294967295) * (bAnd .u64 y_1 4294967295))) (2 ^ 32)))) 4294967295) + (wU64 ((bAnd .u64 x_0 4294967295) * (Int.fdiv y_1 (2 ^ 32)))))) (2 ^ 32)))), (wU64 (x_0 * y_1))))
noncomputable def fe_bits_Mul64 : Fe := ⟨199, [.val (.int .u64), .val (.int .u64)], [], [.int .u64, .int .u64], false, none, fun x y K => bits_Mul64 x.1 x.2.1 (fun r => K r (()))⟩
theorem bits_Mul64_eq (x) (y) (K) : fe_bits_Mul64.X x y K = run bits_Mul64_C [] [] 4000 true [] (entry [.val (.int .u64), .val (.int .u64)] [] x y) (retK Tryz.prog [.tmp 4, .tmp 5] [] [.int .u64, .int .u64] K) := by kernel_rfl
theorem ok_bits_Mul64 : FeOk Tryz.prog fe_bits_Mul64 := fe_of_run (C := bits_Mul64_C) hm bits_Mul64_Γ orc_nil (fn := Tryz.f199) Tryz.func199 rfl rfl (by kernel_rfl) bits_Mul64_eq
/-! loftblock/ratio.product -/
def ratio_product_s0 : List Slot := [.ref 4 (.ptr 4 0), .box true 4 212 tU]
noncomputable def ratio_product_C : Ctx := ⟨Tryz.prog, bodyOf Tryz.f144, 16, [fe_bits_Mul64], ratio_product_s0⟩
theorem ratio_product_Γ : ∀ e ∈ ratio_product_C.Γ, FeOk ratio_product_C.P e := (ok_cons ok_bits_Mul64 ok_nil)
def ratio_product (a_0 : Int) (b_1 : Int) (K : U → Prop) : Prop := (bits_Mul64 a_0 b_1 (fun r1 => (K r1)))
noncomputable def fe_ratio_product : Fe := ⟨144, [.val (.int .u64), .val (.int .u64)], [], [tU], false, none, fun x y K => ratio_product x.1 x.2.1 (fun r => K r (()))⟩
theorem ratio_product_eq (x) (y) (K) : fe_ratio_product.X x y K = run ratio_product_C [] [] 4000 true [] (entry [.val (.int .u64), .val (.int .u64)] [] x y) (retK Tryz.prog [.cell 4 212] [] [tU] K) := by kernel_rfl
theorem ok_ratio_product : FeOk Tryz.prog fe_ratio_product := fe_of_run (C := ratio_product_C) hm ratio_product_Γ orc_nil (fn := Tryz.f144) Tryz.func144 rfl rfl (by kernel_rfl) ratio_product_eq
/-! loftblock/ratio.plus -/
def ratio_plus_s0 : List Slot := [.ref 4 (.ptr 4 0), .box true 4 212 tU]
noncomputable def ratio_plus_C : Ctx := ⟨Tryz.prog, bodyOf Tryz.f146, 29, [fe_bits_Add64], ratio_plus_s0⟩
theorem ratio_plus_Γ : ∀ e ∈ ratio_plus_C.Γ, FeOk ratio_plus_C.P e := (ok_cons ok_bits_Add64 ok_nil)
def ratio_plus (a_0 : U) (b_1 : U) (K : U → Prop) : Prop := (bits_Add64 a_0.2 b_1.2 0 (fun r1 => (bits_Add64 a_0.1 b_1.1 r1.2 (fun r2 => (K (r2.1, r1.1))))))
noncomputable def fe_ratio_plus : Fe := ⟨146, [.val tU, .val tU], [], [tU], false, none, fun x y K => ratio_plus x.1 x.2.1 (fun r => K r (()))⟩
theorem ratio_plus_eq (x) (y) (K) : fe_ratio_plus.X x y K = run ratio_plus_C [] [] 4000 true [] (entry [.val tU, .val tU] [] x y) (retK Tryz.prog [.cell 4 212] [] [tU] K) := by kernel_rfl
theorem ok_ratio_plus : FeOk Tryz.prog fe_ratio_plus := fe_of_run (C := ratio_plus_C) hm ratio_plus_Γ orc_nil (fn := Tryz.f146) Tryz.func146 rfl rfl (by kernel_rfl) ratio_plus_eq
/-! math/bits.Len64 -/
def bits_Len64_s0 : List Slot := [.reg 2 (.int .i64)]
noncomputable def bits_Len64_C : Ctx := ⟨Tryz.prog, bodyOf Tryz.f273, 25, [], bits_Len64_s0⟩
theorem bits_Len64_Γ : ∀ e ∈ bits_Len64_C.Γ, FeOk bits_Len64_C.P e := ok_nil
def bits_Len64_s1 : List Slot := [.reg 0 (.int .u64), .reg 2 (.int .i64)]
def bits_Len64_j3 (x_0 : Int) (n_2 : Int) (kr : Int → Prop) : Prop := (if (decide (x_0 ≥ 256)) = true then ((0 ≤ (wU8 ((Int.fdiv x_0 (2 ^ 8)))) ∧ (wU8 ((Int.fdiv x_0 (2 ^ 8)))) < slen (⟨#[0, 1, 2, 2, 3, 3, 3, 3, 4, 4, 4, 4, 4, 4, 4, 4, 5, 5, 5, 5, 5, 5, 5, 5, 5, 5, 5, 5, 5, 5, 5, 5, 6, 6, 6, 6, 6, 6, 6, 6, 6, 6, 6, 6, 6, 6, 6, 6, 6, 6, 6, 6, 6, 6, 6, 6, 6, 6, 6, 6, 6, 6, 6, 6, 7, 7, 7, 7, 7, 7, 7, 7, 7, 7, 7, 7, 7, 7, 7, 7, 7, 7, 7, 7, 7, 7, 7, 7, 7, 7, 7, 7, 7, 7, 7, 7, 7, 7, 7, 7, 7, 7, 7, 7, 7, 7, 7, 7, 7, 7, 7, 7, 7, 7, 7, 7, 7, 7, 7, 7, 7, 7, 7, 7, 7, 7, 7, 7, 8, 8, 8, 8, 8, 8, 8, 8, 8, 8, 8, 8, 8, 8, 8, 8, 8, 8, 8, 8, 8, 8, 8, 8, 8, 8, 8, 8, 8, 8, 8, 8, 8, 8, 8, 8, 8, 8, 8, 8, 8, 8, 8, 8, 8, 8, 8, 8, 8, 8, 8, 8, 8, 8, 8, 8, 8, 8, 8, 8, 8, 8, 8, 8, 8, 8, 8, 8, 8, 8, 8, 8, 8, 8, 8, 8, 8, 8, 8, 8, 8, 8, 8, 8, 8, 8, 8, 8, 8, 8, 8, 8, 8, 8, 8, 8, 8, 8, 8, 8, 8, 8, 8, 8, 8, 8, 8, 8, 8, 8, 8, 8, 8, 8, 8, 8, 8, 8, 8, 8, 8, 8, 8, 8, 8, 8, 8, 8]⟩ : ByteArray)) ∧ (kr (wI64 ((wI64 (n_2 + 8)) + (wI64 ((strByte (⟨#[0, 1, 2, 2, 3, 3, 3, 3, 4, 4, 4, 4, 4, 4, 4, 4, 5, 5, 5, 5, 5, 5, 5, 5, 5, 5, 5, 5, 5, 5, 5, 5, 6, 6, 6, 6, 6, 6, 6, 6, 6, 6, 6, 6, 6, 6, 6, 6, 6, 6, 6, 6, 6, 6, 6, 6, 6, 6, 6, 6, 6, 6, 6, 6, 7, 7, 7, 7, 7, 7, 7, 7, 7, 7, 7, 7, 7, 7, 7, 7, 7, 7, 7, 7, 7, 7, 7, 7, 7, 7, 7, 7, 7, 7, 7, 7, 7, 7, 7, 7, 7, 7, 7, 7, 7, 7, 7, 7, 7, 7, 7, 7, 7, 7, 7, 7, 7, 7, 7, 7, 7, 7, 7, 7, 7, 7, 7, 7, 8, 8, 8, 8, 8, 8, 8, 8, 8, 8, 8, 8, 8, 8, 8, 8, 8, 8, 8, 8, 8, 8, 8, 8, 8, 8, 8, 8, 8, 8, 8, 8, 8, 8, 8, 8, 8, 8, 8, 8, 8, 8, 8, 8, 8, 8, 8, 8, 8, 8, 8, 8, 8, 8, 8, 8, 8, 8, 8, 8, 8, 8, 8, 8, 8, 8, 8, 8, 8, 8, 8, 8, 8, 8, 8, 8, 8, 8, 8, 8, 8, 8, 8, 8, 8, 8, 8, 8, 8, 8, 8, 8, 8, 8, 8, 8, 8, 8, 8, 8, 8, 8, 8, 8, 8, 8, 8, 8, 8, 8, 8, 8, 8, 8, 8, 8, 8, 8, 8, 8, 8, 8, 8, 8, 8, 8, 8, 8]⟩ : ByteArray) (wU8 ((Int.fdiv x_0 (2 ^ 8))))))))))) else ((0 ≤ (wU8 (x_0)) ∧ (wU8 (x_0)) < slen (⟨#[0, 1, 2, 2, 3, 3, 3, 3, 4, 4, 4, 4, 4, 4, 4, 4, 5, 5, 5, 5, 5, 5, 5, 5, 5, 5, 5, 5, 5, 5, 5, 5, 6, 6, 6, 6, 6, 6, 6, 6, 6, 6, 6, 6, 6, 6, 6, 6, 6, 6, 6, 6, 6, 6, 6, 6, 6, 6, 6, 6, 6, 6, 6, 6, 7, 7, 7, 7, 7, 7, 7, 7, 7, 7, 7, 7, 7, 7, 7, 7, 7, 7, 7, 7, 7, 7, 7, 7, 7, 7, 7, 7, 7, 7, 7, 7, 7, 7, 7, 7, 7, 7, 7, 7, 7, 7, 7, 7, 7, 7, 7, 7, 7, 7, 7, 7, 7, 7, 7, 7, 7, 7, 7, 7, 7, 7, 7, 7, 8, 8, 8, 8, 8, 8, 8, 8, 8, 8, 8, 8, 8, 8, 8, 8, 8, 8, 8, 8, 8, 8, 8, 8, 8, 8, 8, 8, 8, 8, 8, 8, 8, 8, 8, 8, 8, 8, 8, 8, 8, 8, 8, 8, 8, 8, 8, 8, 8, 8, 8, 8, 8, 8, 8, 8, 8, 8, 8, 8, 8, 8, 8, 8, 8, 8, 8, 8, 8, 8, 8, 8, 8, 8, 8, 8, 8, 8, 8, 8, 8, 8, 8, 8, 8, 8, 8, 8, 8, 8, 8, 8, 8, 8, 8, 8, 8, 8, 8, 8, 8, 8, 8, 8, 8, 8, 8, 8, 8, 8, 8, 8, 8, 8, 8, 8, 8, 8, 8, 8, 8, 8, 8, 8, 8, 8, 8, 8]⟩ : ByteArray)) ∧ (kr (wI64 (n_2 + (wI64 ((strByte (⟨#[0, 1, 2, 2, 3, 3, 3, 3, 4, 4, 4, 4, 4, 4, 4, 4, 5, 5, 5, 5, 5, 5, 5, 5, 5, 5, 5, 5, 5, 5, 5, 5, 6, 6, 6, 6, 6, 6, 6, 6, 6, 6, 6, 6, 6, 6, 6, 6, 6, 6, 6, 6, 6, 6, 6, 6, 6, 6, 6, 6, 6, 6, 6, 6, 7, 7, 7, 7, 7, 7, 7, 7, 7, 7, 7, 7, 7, 7, 7, 7, 7, 7, 7, 7, 7, 7, 7, 7, 7, 7, 7, 7, 7, 7, 7, 7, 7, 7, 7, 7, 7, 7, 7, 7, 7, 7, 7, 7, 7, 7, 7, 7, 7, 7, 7, 7, 7, 7, 7, 7, 7, 7, 7, 7, 7, 7, 7, 7, 8, 8, 8, 8, 8, 8, 8, 8, 8, 8, 8, 8, 8, 8, 8, 8, 8, 8, 8, 8, 8, 8, 8, 8, 8, 8, 8, 8, 8, 8, 8, 8, 8, 8, 8, 8, 8, 8, 8, 8, 8, 8, 8, 8, 8, 8, 8, 8, 8, 8, 8, 8, 8, 8, 8, 8, 8, 8, 8, 8, 8, 8, 8, 8, 8, 8, 8, 8, 8, 8, 8, 8, 8, 8, 8, 8, 8, 8, 8, 8, 8, 8, 8, 8, 8, 8, 8, 8, 8, 8, 8, 8, 8, 8, 8, 8, 8, 8, 8, 8, 8, 8, 8, 8, 8, 8, 8, 8, 8, 8, 8, 8, 8, 8, 8, 8, 8, 8, 8, 8, 8, 8, 8, 8, 8, 8, 8, 8]⟩ : ByteArray) (wU8 (x_0))))))))))
noncomputable def bits_Len64_o_j3 : Orc := ⟨[1, 1, 1], bits_Len64_s1, fun x Φ => bits_Len64_j3 x.1 x.2.1 (fun rn_2 => Φ (.ret (encS bits_Len64_s0 (rn_2, ()))))⟩
theorem bits_Len64_j3_eq (x : sden bits_Len64_s1) (Φ : Out → Prop) : bits_Len64_o_j3.X x Φ = run bits_Len64_C [] [] 4000 true [1, 1, 1] (encS bits_Len64_s1 x) Φ := by kernel_rfl
theorem bits_Len64_j3_ok : OrcOk bits_Len64_C bits_Len64_o_j3 := orc_of_run hm bits_Len64_Γ orc_nil bits_Len64_j3_eq
def bits_Len64_j2 (x_0 : Int) (n_2 : Int) (kr : Int → Prop) : Prop := (if (decide (x_0 ≥ 65536)) = true then (bits_Len64_j3 (Int.fdiv x_0 (2 ^ 16)) (wI64 (n_2 + 16)) kr) else (bits_Len64_j3 x_0 n_2 kr))
noncomputable def bits_Len64_o_j2 : Orc := ⟨[1, 1], bits_Len64_s1, fun x Φ => bits_Len64_j2 x.1 x.2.1 (fun rn_2 => Φ (.ret (encS bits_Len64_s0 (rn_2, ()))))⟩
theorem bits_Len64_j2_eq (x : sden bits_Len64_s1) (Φ : Out → Prop) : bits_Len64_o_j2.X x Φ = run bits_Len64_C [bits_Len64_o_j3] [] 4000 true [1, 1] (encS bits_Len64_s1 x) Φ := by kernel_rfl
theorem bits_Len64_j2_ok : OrcOk bits_Len64_C bits_Len64_o_j2 := orc_of_run hm bits_Len64_Γ (orc_cons bits_Len64_j3_ok orc_nil) bits_Len64_j2_eq
def bits_Len64 (x_0 : Int) (K : Int → Prop) : Prop := (if (decide (x_0 ≥ 4294967296)) = true then (bits_Len64_j2 (Int.fdiv x_0 (2 ^ 32)) 32 (fun rn_2 => (K rn_2))) else (bits_Len64_j2 x_0 0 (fun rn_2 => (K rn_2))))
noncomputable def fe_bits_Len64 : Fe := ⟨273, [.val (.int .u64)], [], [.int .i64], false, none, fun x y K => bits_Len64 x.1 (fun r => K r (()))⟩
theorem bits_Len64_eq (x) (y) (K) : fe_bits_Len64.X x y K = run bits_Len64_C [bits_Len64_o_j2] [] 4000 true [] (entry [.val (.int .u64)] [] x y) (retK Tryz.prog [.tmp 2] [] [.int .i64] K) := by kernel_rfl
theorem ok_bits_Len64 : FeOk Tryz.prog fe_bits_Len64 := fe_of_run (C := bits_Len64_C) hm bits_Len64_Γ (orc_cons bits_Len64_j2_ok orc_nil) (fn := Tryz.f273) Tryz.func273 rfl rfl (by kernel_rfl) bits_Len64_eq
/-! math/bits.LeadingZeros64 -/
def bits_LeadingZeros64_s0 : List Slot := [.reg 2 (.int .i64)]
noncomputable def bits_LeadingZeros64_C : Ctx := ⟨Tryz.prog, bodyOf Tryz.f249, 6, [fe_bits_Len64], bits_LeadingZeros64_s0⟩
theorem bits_LeadingZeros64_Γ : ∀ e ∈ bits_LeadingZeros64_C.Γ, FeOk bits_LeadingZeros64_C.P e := (ok_cons ok_bits_Len64 ok_nil)
def bits_LeadingZeros64 (x_0 : Int) (K : Int → Prop) : Prop := (bits_Len64 x_0 (fun r1 => (K (wI64 (64 - r1)))))
noncomputable def fe_bits_LeadingZeros64 : Fe := ⟨249, [.val (.int .u64)], [], [.int .i64], false, none, fun x y K => bits_LeadingZeros64 x.1 (fun r => K r (()))⟩
theorem bits_LeadingZeros64_eq (x) (y) (K) : fe_bits_LeadingZeros64.X x y K = run bits_LeadingZeros64_C [] [] 4000 true [] (entry [.val (.int .u64)] [] x y) (retK Tryz.prog [.tmp 2] [] [.int .i64] K) := by kernel_rfl
theorem ok_bits_LeadingZeros64 : FeOk Tryz.prog fe_bits_LeadingZeros64 := fe_of_run (C := bits_LeadingZeros64_C) hm bits_LeadingZeros64_Γ orc_nil (fn := Tryz.f249) Tryz.func249 rfl rfl (by kernel_rfl) bits_LeadingZeros64_eq
/-! math/bits.Div64 -/
def bits_Div64_s0 : List Slot := [.reg 6 (.int .u64), .reg 7 (.int .u64)]
noncomputable def bits_Div64_C : Ctx := ⟨Tryz.prog, bodyOf Tryz.f202, 135, [fe_bits_LeadingZeros64], bits_Div64_s0⟩
theorem bits_Div64_Γ : ∀ e ∈ bits_Div64_C.Γ, FeOk bits_Div64_C.P e := (ok_cons ok_bits_LeadingZeros64 ok_nil)
def bits_Div64_s1 : List Slot := [.reg 2 (.int .u64), .reg 8 (.int .u64), .reg 9 (.int .u64), .reg 10 (.int .u64), .reg 11 (.int .u64), .reg 13 (.int .u64), .reg 14 (.int .u64), .reg 15 (.int .u64)]
def bits_Div64_s2 : List Slot := [.reg 2 (.int .u64), .reg 8 (.int .u64), .reg 9 (.int .u64), .reg 10 (.int .u64), .reg 11 (.int .u64), .reg 13 (.int .u64), .reg 14 (.int .u64), .reg 15 (.int .u64), .reg 16 (.int .u64)]
def bits_Div64_s3 : List Slot := [.reg 2 (.int .u64), .reg 8 (.int .u64), .reg 9 (.int .u64), .reg 10 (.int .u64), .reg 11 (.int .u64), .reg 13 (.int .u64), .reg 14 (.int .u64), .reg 15 (.int .u64), .reg 16 (.int .u64), .reg 78 .bool]
def bits_Div64_j3 (y_2 : Int) (s_8 : Int) (yn1_9 : Int) (yn0_10 : Int) (un32_11 : Int) (un1_13 : Int) (un0_14 : Int) (q1_15 : Int) (rhat_16 : Int) (t_78 : Bool) (k0 : Int → Int → Int → Int → Int → Int → Int → Int → Prop) (k1 : Int → Int → Int → Int → Int → Int → Int → Int → Int → Prop) : Prop := (if t_78 = true then (if (decide ((wU64 (rhat_16 + yn1_9)) ≥ 4294967296)) = true then (k0 y_2 s_8 yn1_9 yn0_10 un32_11 un1_13 un0_14 (wU64 (q1_15 - 1))) else (k1 y_2 s_8 yn1_9 yn0_10 un32_11 un1_13 un0_14 (wU64 (q1_15 - 1)) (wU64 (rhat_16 + yn1_9)))) else (k0 y_2 s_8 yn1_9 yn0_10 un32_11 un1_13 un0_14 q1_15))
noncomputable def bits_Div64_o_j3 : Orc := ⟨[1, 0, 0, 0, 0, 1, 1, 1, 1, 1, 1, 1, 1, 1, 1, 1, 1, 1, 1], bits_Div64_s3, fun x Φ => bits_Div64_j3 x.1 x.2.1 x.2.2.1 x.2.2.2.1 x.2.2.2.2.1 x.2.2.2.2.2.1 x.2.2.2.2.2.2.1 x.2.2.2.2.2.2.2.1 x.2.2.2.2.2.2.2.2.1 x.2.2.2.2.2.2.2.2.2.1 (fun y_2 s_8 yn1_9 yn0_10 un32_11 un1_13 un0_14 q1_15 => Φ (.stop [1, 1, 1, 1, 1, 1, 1, 1, 1, 1, 1, 1, 1, 1, 1] (encS bits_Div64_s1 (y_2, s_8, yn1_9, yn0_10, un32_11, un1_13, un0_14, q1_15, ())))) (fun y_2 s_8 yn1_9 yn0_10 un32_11 un1_13 un0_14 q1_15 rhat_16 => Φ (.stop [0, 0, 0, 1, 1, 1, 1, 1, 1, 1, 1, 1, 1, 1, 1, 1, 1] (encS bits_Div64_s2 (y_2, s_8, yn1_9, yn0_10, un32_11, un1_13, un0_14, q1_15, rhat_16, ()))))⟩
theorem bits_Div64_j3_eq (x : sden bits_Div64_s3) (Φ : Out → Prop) : bits_Div64_o_j3.X x Φ = run bits_Div64_C [] [([1, 1, 1, 1, 1, 1, 1, 1, 1, 1, 1, 1, 1, 1, 1], bits_Div64_s1), ([0, 0, 0, 1, 1, 1, 1, 1, 1, 1, 1, 1, 1, 1, 1, 1, 1], bits_Div64_s2)] 4000 true [1, 0, 0, 0, 0, 1, 1, 1, 1, 1, 1, 1, 1, 1, 1, 1, 1, 1, 1] (encS bits_Div64_s3 x) Φ := by kernel_rfl
theorem bits_Div64_j3_ok : OrcOk bits_Div64_C bits_Div64_o_j3 := orc_of_run hm bits_Div64_Γ orc_nil bits_Div64_j3_eq
def bits_Div64_l2N (k0 : Int → Int → Int → Int → Int → Int → Int → Int → Prop) : Nat → Int → Int → Int → Int → Int → Int → Int → Int → Int → Prop
  | 0, _, _, _, _, _, _, _, _, _ => False
  | n + 1, y_2, s_8, yn1_9, yn0_10, un32_11, un1_13, un0_14, q1_15, rhat_16 => (if (decide (q1_15 ≥ 4294967296)) = true then (bits_Div64_j3 y_2 s_8 yn1_9 yn0_10 un32_11 un1_13 un0_14 q1_15 rhat_16 true (fun y_2 s_8 yn1_9 yn0_10 un32_11 un1_13 un0_14 q1_15 => (k0 y_2 s_8 yn1_9 yn0_10 un32_11 un1_13 un0_14 q1_15)) (fun y_2 s_8 yn1_9 yn0_10 un32_11 un1_13 un0_14 q1_15 rhat_16 => (bits_Div64_l2N k0 n y_2 s_8 yn1_9 yn0_10 un32_11 un1_13 un0_14 q1_15 rhat_16))) else (bits_Div64_j3 y_2 s_8 yn1_9 yn0_10 un32_11 un1_13 un0_14 q1_15 rhat_16 (decide ((wU64 (q1_15 * yn0_10)) > (wU64 ((wU64 (4294967296 * rhat_16)) + un1_13)))) (fun y_2 s_8 yn1_9 yn0_10 un32_11 un1_13 un0_14 q1_15 => (k0 y_2 s_8 yn1_9 yn0_10 un32_11 un1_13 un0_14 q1_15)) (fun y_2 s_8 yn1_9 yn0_10 un32_11 un1_13 un0_14 q1_15 rhat_16 => (bits_Div64_l2N k0 n y_2 s_8 yn1_9 yn0_10 un32_11 un1_13 un0_14 q1_15 rhat_16))))
def bits_Div64_l2 (y_2 : Int) (s_8 : Int) (yn1_9 : Int) (yn0_10 : Int) (un32_11 : Int) (un1_13 : Int) (un0_14 : Int) (q1_15 : Int) (rhat_16 : Int) (k0 : Int → Int → Int → Int → Int → Int → Int → Int → Prop) : Prop := ∃ n, bits_Div64_l2N k0 n y_2 s_8 yn1_9 yn0_10 un32_11 un1_13 un0_14 q1_15 rhat_16
noncomputable def bits_Div64_n_l2 (n : Nat) : Orc := ⟨[0, 0, 0, 1, 1, 1, 1, 1, 1, 1, 1, 1, 1, 1, 1, 1, 1], bits_Div64_s2, fun x Φ => bits_Div64_l2N (fun y_2 s_8 yn1_9 yn0_10 un32_11 un1_13 un0_14 q1_15 => Φ (.stop [1, 1, 1, 1, 1, 1, 1, 1, 1, 1, 1, 1, 1, 1, 1] (encS bits_Div64_s1 (y_2, s_8, yn1_9, yn0_10, un32_11, un1_13, un0_14, q1_15, ())))) n x.1 x.2.1 x.2.2.1 x.2.2.2.1 x.2.2.2.2.1 x.2.2.2.2.2.1 x.2.2.2.2.2.2.1 x.2.2.2.2.2.2.2.1 x.2.2.2.2.2.2.2.2.1⟩
noncomputable def bits_Div64_o_l2 : Orc := ⟨[0, 0, 0, 1, 1, 1, 1, 1, 1, 1, 1, 1, 1, 1, 1, 1, 1], bits_Div64_s2, fun x Φ => bits_Div64_l2 x.1 x.2.1 x.2.2.1 x.2.2.2.1 x.2.2.2.2.1 x.2.2.2.2.2.1 x.2.2.2.2.2.2.1 x.2.2.2.2.2.2.2.1 x.2.2.2.2.2.2.2.2.1 (fun y_2 s_8 yn1_9 yn0_10 un32_11 un1_13 un0_14 q1_15 => Φ (.stop [1, 1, 1, 1, 1, 1, 1, 1, 1, 1, 1, 1, 1, 1, 1] (encS bits_Div64_s1 (y_2, s_8, yn1_9, yn0_10, un32_11, un1_13, un0_14, q1_15, ()))))⟩
theorem bits_Div64_l2_eq (n : Nat) (x : sden bits_Div64_s2) (Φ : Out → Prop) : (bits_Div64_n_l2 (n + 1)).X x Φ = run bits_Div64_C [bits_Div64_n_l2 n, bits_Div64_o_j3] [([1, 1, 1, 1, 1, 1, 1, 1, 1, 1, 1, 1, 1, 1, 1], bits_Div64_s1)] 4000 true [0, 0, 0, 1, 1, 1, 1, 1, 1, 1, 1, 1, 1, 1, 1, 1, 1] (encS bits_Div64_s2 x) Φ := by kernel_rfl
theorem bits_Div64_l2_ok : OrcOk bits_Div64_C bits_Div64_o_l2 := orc_loop hm bits_Div64_Γ (on := bits_Div64_n_l2) (orc_cons bits_Div64_j3_ok orc_nil) (fun x Φ h => h) bits_Div64_l2_eq (fun x Φ ⟨n, h⟩ => ⟨n, x, h, rfl, rfl⟩)
def bits_Div64_s4 : List Slot := [.reg 2 (.int .u64), .reg 8 (.int .u64), .reg 14 (.int .u64), .reg 15 (.int .u64), .reg 17 (.int .u64), .reg 18 (.int .u64)]
def bits_Div64_s5 : List Slot := [.reg 2 (.int .u64), .reg 8 (.int .u64), .reg 9 (.int .u64), .reg 10 (.int .u64), .reg 14 (.int .u64), .reg 15 (.int .u64), .reg 16 (.int .u64), .reg 17 (.int .u64), .reg 18 (.int .u64)]
def bits_Div64_s6 : List Slot := [.reg 2 (.int .u64), .reg 8 (.int .u64), .reg 9 (.int .u64), .reg 10 (.int .u64), .reg 14 (.int .u64), .reg 15 (.int .u64), .reg 16 (.int .u64), .reg 17 (.int .u64), .reg 18 (.int .u64), .reg 113 .bool]
def bits_Div64_j5 (y_2 : Int) (s_8 : Int) (yn1_9 : Int) (yn0_10 : Int) (un0_14 : Int) (q1_15 : Int) (rhat_16 : Int) (un21_17 : Int) (q0_18 : Int) (t_113 : Bool) (k0 : Int → Int → Int → Int → Int → Int → Prop) (k1 : Int → Int → Int → Int → Int → Int → Int → Int → Int → Prop) : Prop := (if t_113 = true then (if (decide ((wU64 (rhat_16 + yn1_9)) ≥ 4294967296)) = true then (k0 y_2 s_8 un0_14 q1_15 un21_17 (wU64 (q0_18 - 1))) else (k1 y_2 s_8 yn1_9 yn0_10 un0_14 q1_15 (wU64 (rhat_16 + yn1_9)) un21_17 (wU64 (q0_18 - 1)))) else (k0 y_2 s_8 un0_14 q1_15 un21_17 q0_18))
noncomputable def bits_Div64_o_j5 : Orc := ⟨[1, 0, 0, 0, 0, 1, 1, 1, 1, 1, 1, 1, 1, 1, 1, 1, 1, 1, 1, 1, 1, 1, 1], bits_Div64_s6, fun x Φ => bits_Div64_j5 x.1 x.2.1 x.2.2.1 x.2.2.2.1 x.2.2.2.2.1 x.2.2.2.2.2.1 x.2.2.2.2.2.2.1 x.2.2.2.2.2.2.2.1 x.2.2.2.2.2.2.2.2.1 x.2.2.2.2.2.2.2.2.2.1 (fun y_2 s_8 un0_14 q1_15 un21_17 q0_18 => Φ (.stop [1, 1, 1, 1, 1, 1, 1, 1, 1, 1, 1, 1, 1, 1, 1, 1, 1, 1, 1] (encS bits_Div64_s4 (y_2, s_8, un0_14, q1_15, un21_17, q0_18, ())))) (fun y_2 s_8 yn1_9 yn0_10 un0_14 q1_15 rhat_16 un21_17 q0_18 => Φ (.stop [0, 0, 0, 1, 1, 1, 1, 1, 1, 1, 1, 1, 1, 1, 1, 1, 1, 1, 1, 1, 1] (encS bits_Div64_s5 (y_2, s_8, yn1_9, yn0_10, un0_14, q1_15, rhat_16, un21_17, q0_18, ()))))⟩
theorem bits_Div64_j5_eq (x : sden bits_Div64_s6) (Φ : Out → Prop) : bits_Div64_o_j5.X x Φ = run bits_Div64_C [] [([1, 1, 1, 1, 1, 1, 1, 1, 1, 1, 1, 1, 1, 1, 1, 1, 1, 1, 1], bits_Div64_s4), ([0, 0, 0, 1, 1, 1, 1, 1, 1, 1, 1, 1, 1, 1, 1, 1, 1, 1, 1, 1, 1], bits_Div64_s5)] 4000 true [1, 0, 0, 0, 0, 1, 1, 1, 1, 1, 1, 1, 1, 1, 1, 1, 1, 1, 1, 1, 1, 1, 1] (encS bits_Div64_s6 x) Φ := by kernel_rfl
theorem bits_Div64_j5_ok : OrcOk bits_Div64_C bits_Div64_o_j5 := orc_of_run hm bits_Div64_Γ orc_nil bits_Div64_j5_eq
def bits_Div64_l4N (k0 : Int → Int → Int → Int → Int → Int → Prop) : Nat → Int → Int → Int → Int → Int → Int → Int → Int → Int → Prop
  | 0, _, _, _, _, _, _, _, _, _ => False
  | n + 1, y_2, s_8, yn1_9, yn0_10, un0_14, q1_15, rhat_16, un21_17, q0_18 => (if (decide (q0_18 ≥ 4294967296)) = true then (bits_Div64_j5 y_2 s_8 yn1_9 yn0_10 un0_14 q1_15 rhat_16 un21_17 q0_18 true (fun y_2 s_8 un0_14 q1_15 un21_17 q0_18 => (k0 y_2 s_8 un0_14 q1_15 un21_17 q0_18)) (fun y_2 s_8 yn1_9 yn0_10 un0_14 q1_15 rhat_16 un21_17 q0_18 => (bits_Div64_l4N k0 n y_2 s_8 yn1_9 yn0_10 un0_14 q1_15 rhat_16 un21_17 q0_18))) else (bits_Div64_j5 y_2 s_8 yn1_9 yn0_10 un0_14 q1_15 rhat_16 un21_17 q0_18 (decide ((wU64 (q0_18 * yn0_10)) > (wU64 ((wU64 (4294967296 * rhat_16)) + un0_14)))) (fun y_2 s_8 un0_14 q1_15 un21_17 q0_18 => (k0 y_2 s_8 un0_14 q1_15 un21_17 q0_18)) (fun y_2 s_8 yn1_9 yn0_10 un0_14 q1_15 rhat_16 un21_17 q0_18 => (bits_Div64_l4N k0 n y_2 s_8 yn1_9 yn0_10 un0_14 q1_15 rhat_16 un21_17 q0_18))))
def bits_Div64_l4 (y_2 : Int) (s_8 : Int) (yn1_9 : Int) (yn0_10 : Int) (un0_14 : Int) (q1_15 : Int) (rhat_16 : Int) (un21_17 : Int) (q0_18 : Int) (k0 : Int → Int → Int → Int → Int → Int → Prop) : Prop := ∃ n, bits_Div64_l4N k0 n y_2 s_8 yn1_9 yn0_10 un0_14 q1_15 rhat_16 un21_17 q0_18
noncomputable def bits_Div64_n_l4 (n : Nat) : Orc := ⟨[0, 0, 0, 1, 1, 1, 1, 1, 1, 1, 1, 1, 1, 1, 1, 1, 1, 1, 1, 1, 1], bits_Div64_s5, fun x Φ => bits_Div64_l4N (fun y_2 s_8 un0_14 q1_15 un21_17 q0_18 => Φ (.stop [1, 1, 1, 1, 1, 1, 1, 1, 1, 1, 1, 1, 1, 1, 1, 1, 1, 1, 1] (encS bits_Div64_s4 (y_2, s_8, un0_14, q1_15, un21_17, q0_18, ())))) n x.1 x.2.1 x.2.2.1 x.2.2.2.1 x.2.2.2.2.1 x.2.2.2.2.2.1 x.2.2.2.2.2.2.1 x.2.2.2.2.2.2.2.1 x.2.2.2.2.2.2.2.2.1⟩
noncomputable def bits_Div64_o_l4 : Orc := ⟨[0, 0, 0, 1, 1, 1, 1, 1, 1, 1, 1, 1, 1, 1, 1, 1, 1, 1, 1, 1, 1], bits_Div64_s5, fun x Φ => bits_Div64_l4 x.1 x.2.1 x.2.2.1 x.2.2.2.1 x.2.2.2.2.1 x.2.2.2.2.2.1 x.2.2.2.2.2.2.1 x.2.2.2.2.2.2.2.1 x.2.2.2.2.2.2.2.2.1 (fun y_2 s_8 un0_14 q1_15 un21_17 q0_18 => Φ (.stop [1, 1, 1, 1, 1, 1, 1, 1, 1, 1, 1, 1, 1, 1, 1, 1, 1, 1, 1] (encS bits_Div64_s4 (y_2, s_8, un0_14, q1_15, un21_17, q0_18, ()))))⟩
theorem bits_Div64_l4_eq (n : Nat) (x : sden bits_Div64_s5) (Φ : Out → Prop) : (bits_Div64_n_l4 (n + 1)).X x Φ = run bits_Div64_C [bits_Div64_n_l4 n, bits_Div64_o_j5] [([1, 1, 1, 1, 1, 1, 1, 1, 1, 1, 1, 1, 1, 1, 1, 1, 1, 1, 1], bits_Div64_s4)] 4000 true [0, 0, 0, 1, 1, 1, 1, 1, 1, 1, 1, 1, 1, 1, 1, 1, 1, 1, 1, 1, 1] (encS bits_Div64_s5 x) Φ := by kernel_rfl
theorem bits_Div64_l4_ok : OrcOk bits_Div64_C bits_Div64_o_l4 := orc_loop hm bits_Div64_Γ (on := bits_Div64_n_l4) (orc_cons bits_Div64_j5_ok orc_nil) (fun x Φ h => h) bits_Div64_l4_eq (fun x Φ ⟨n, h⟩ => ⟨n, x, h, rfl, rfl⟩)
def bits_Div64 (hi_0 : Int) (lo_1 : Int) (y_2 : Int) (K : U → Prop) : Prop := (if (y_2 == 0) = true then False else (if (decide (y_2 ≤ hi_0)) = true then False else (if (hi_0 == 0) = true then (if y_2 = 0 then False else (if y_2 = 0 then False else (K ((wU64 (Int.tdiv lo_1 y_2)), (Int.tmod lo_1 y_2))))) else (bits_LeadingZeros64 y_2 (fun r1 => (if (wU64 (r1)) < 0 then False else (if (wU64 (r1)) < 0 then False else (if (wU64 (64 - (wU64 (r1)))) < 0 then False else (if (wU64 (r1)) < 0 then False else (if (Int.fdiv (shL .u64 y_2 (wU64 (r1))) (2 ^ 32)) = 0 then False else (bits_Div64_l2 (shL .u64 y_2 (wU64 (r1))) (wU64 (r1)) (Int.fdiv (shL .u64 y_2 (wU64 (r1))) (2 ^ 32)) (bAnd .u64 (shL .u64 y_2 (wU64 (r1))) 4294967295) (bOr .u64 (shL .u64 hi_0 (wU64 (r1))) (shR .u64 lo_1 (wU64 (64 - (wU64 (r1)))))) (Int.fdiv (shL .u64 lo_1 (wU64 (r1))) (2 ^ 32)) (bAnd .u64 (shL .u64 lo_1 (wU64 (r1))) 4294967295) (wU64 (Int.tdiv (bOr .u64 (shL .u64 hi_0 (wU64 (r1))) (shR .u64 lo_1 (wU64 (64 - (wU64 (r1)))))) (Int.fdiv (shL .u64 y_2 (wU64 (r1))) (2 ^ 32)))) (wU64 ((bOr .u64 (shL .u64 hi_0 (wU64 (r1))) (shR .u64 lo_1 (wU64 (64 - (wU64 (r1)))))) - (wU64 ((wU64 (Int.tdiv (bOr .u64 (shL .u64 hi_0 (wU64 (r1))) (shR .u64 lo_1 (wU64 (64 - (wU64 (r1)))))) (Int.fdiv (shL .u64 y_2 (wU64 (r1))) (2 ^ 32)))) * (Int.fdiv (shL .u64 y_2 (wU64 (r1))) (2 ^ 32)))))) (fun y_2 s_8 yn1_9 yn0_10 un32_11 un1_13 un0_14 q1_15 => (if yn1_9 = 0 then False else (bits_Div64_l4 y_2 s_8 yn1_9 yn0_10 un0_14 q1_15 (wU64 ((wU64 ((wU64 ((wU64 (un32_11 * 4294967296)) + un1_13)) - (wU64 (q1_15 * y_2)))) - (wU64 ((wU64 (Int.tdiv (wU64 ((wU64 ((wU64 (un32_11 * 4294967296)) + un1_13)) - (wU64 (q1_15 * y_2)))) yn1_9)) * yn1_9)))) (wU64 ((wU64 ((wU64 (un32_11 * 4294967296)) + un1_13)) - (wU64 (q1_15 * y_2)))) (wU64 (Int.tdiv (wU64 ((wU64 ((wU64 (un32_11 * 4294967296)) + un1_13)) - (wU64 (q1_15 * y_2)))) yn1_9)) (fun y_2 s_8 un0_14 q1_15 un21_17 q0_18 => (if s_8 < 0 then False else (K ((wU64 ((wU64 (q1_15 * 4294967296)) + q0_18)), (shR .u64 (wU64 ((wU64 ((wU64 (un21_17 * 4294967296)) + un0_14)) - (wU64 (q0_18 * y_2)))) s_8)))))))))))))))))))
noncomputable def fe_bits_Div64 : Fe := ⟨202, [.val (.int .u64), .val (.int .u64), .val (.int .u64)], [], [.int .u64, .int .u64], false, none, fun x y K => bits_Div64 x.1 x.2.1 x.2.2.1 (fun r => K r (()))⟩
theorem bits_Div64_eq (x) (y) (K) : fe_bits_Div64.X x y K = run bits_Div64_C [bits_Div64_o_l2, bits_Div64_o_l4] [] 4000 true [] (entry [.val (.int .u64), .val (.int .u64), .val (.int .u64)] [] x y) (retK Tryz.prog [.tmp 6, .tmp 7] [] [.int .u64, .int .u64] K) := by kernel_rfl
theorem ok_bits_Div64 : FeOk Tryz.prog fe_bits_Div64 := fe_of_run (C := bits_Div64_C) hm bits_Div64_Γ (orc_cons bits_Div64_l2_ok (orc_cons bits_Div64_l4_ok orc_nil)) (fn := Tryz.f202) Tryz.func202 rfl rfl (by kernel_rfl) bits_Div64_eq
/-! loftblock/ratio.over -/
def ratio_over_s0 : List Slot := [.ref 4 (.ptr 4 0), .box true 4 212 tU, .reg 5 (.int .u64)]
noncomputable def ratio_over_C : Ctx := ⟨Tryz.prog, bodyOf Tryz.f149, 26, [fe_bits_Div64], ratio_over_s0⟩
theorem ratio_over_Γ : ∀ e ∈ ratio_over_C.Γ, FeOk ratio_over_C.P e := (ok_cons ok_bits_Div64 ok_nil)
def ratio_over (a_0 : U) (b_1 : Int) (K : (U × Int) → Prop) : Prop := (if b_1 = 0 then False else (bits_Div64 (Int.tmod a_0.1 b_1) a_0.2 b_1 (fun r1 => (if b_1 = 0 then False else (K (((wU64 (Int.tdiv a_0.1 b_1)), r1.1), r1.2))))))
noncomputable def fe_ratio_over : Fe := ⟨149, [.val tU, .val (.int .u64)], [], [tU, .int .u64], false, none, fun x y K => ratio_over x.1 x.2.1 (fun r => K r (()))⟩
theorem ratio_over_eq (x) (y) (K) : fe_ratio_over.X x y K = run ratio_over_C [] [] 4000 true [] (entry [.val tU, .val (.int .u64)] [] x y) (retK Tryz.prog [.cell 4 212, .tmp 5] [] [tU, .int .u64] K) := by kernel_rfl
theorem ok_ratio_over : FeOk Tryz.prog fe_ratio_over := fe_of_run (C := ratio_over_C) hm ratio_over_Γ orc_nil (fn := Tryz.f149) Tryz.func149 rfl rfl (by kernel_rfl) ratio_over_eq
/-! loftblock/ratio.less -/
def ratio_less_s0 : List Slot := [.reg 4 .bool]
noncomputable def ratio_less_C : Ctx := ⟨Tryz.prog, bodyOf Tryz.f147, 24, [], ratio_less_s0⟩
theorem ratio_less_Γ : ∀ e ∈ ratio_less_C.Γ, FeOk ratio_less_C.P e := ok_nil
def ratio_less (a_0 : U) (b_1 : U) (K : Bool → Prop) : Prop := (if (decide (a_0.1 < b_1.1)) = true then (K true) else (if (a_0.1 == b_1.1) = true then (K (decide (a_0.2 < b_1.2))) else (K false)))
noncomputable def fe_ratio_less : Fe := ⟨147, [.val tU, .val tU], [], [.bool], false, none, fun x y K => ratio_less x.1 x.2.1 (fun r => K r (()))⟩
theorem ratio_less_eq (x) (y) (K) : fe_ratio_less.X x y K = run ratio_less_C [] [] 4000 true [] (entry [.val tU, .val tU] [] x y) (retK Tryz.prog [.tmp 4] [] [.bool] K) := by kernel_rfl
theorem ok_ratio_less : FeOk Tryz.prog fe_ratio_less := fe_of_run (C := ratio_less_C) hm ratio_less_Γ orc_nil (fn := Tryz.f147) Tryz.func147 rfl rfl (by kernel_rfl) ratio_less_eq
/-! loftblock/ratio.minus -/
def ratio_minus_s0 : List Slot := [.ref 4 (.ptr 4 0), .box true 4 212 tU]
noncomputable def ratio_minus_C : Ctx := ⟨Tryz.prog, bodyOf Tryz.f148, 29, [fe_bits_Sub64], ratio_minus_s0⟩
theorem ratio_minus_Γ : ∀ e ∈ ratio_minus_C.Γ, FeOk ratio_minus_C.P e := (ok_cons ok_bits_Sub64 ok_nil)
def ratio_minus (a_0 : U) (b_1 : U) (K : U → Prop) : Prop := (bits_Sub64 a_0.2 b_1.2 0 (fun r1 => (bits_Sub64 a_0.1 b_1.1 r1.2 (fun r2 => (K (r2.1, r1.1))))))
noncomputable def fe_ratio_minus : Fe := ⟨148, [.val tU, .val tU], [], [tU], false, none, fun x y K => ratio_minus x.1 x.2.1 (fun r => K r (()))⟩
theorem ratio_minus_eq (x) (y) (K) : fe_ratio_minus.X x y K = run ratio_minus_C [] [] 4000 true [] (entry [.val tU, .val tU] [] x y) (retK Tryz.prog [.cell 4 212] [] [tU] K) := by kernel_rfl
theorem ok_ratio_minus : FeOk Tryz.prog fe_ratio_minus := fe_of_run (C := ratio_minus_C) hm ratio_minus_Γ orc_nil (fn := Tryz.f148) Tryz.func148 rfl rfl (by kernel_rfl) ratio_minus_eq
/-! loftblock/ratio.Add -/
def ratio_Add_s0 : List Slot := [.ref 4 (.ptr 4 0), .box true 4 29 tFrac, .reg 5 (.int .i64)]
noncomputable def ratio_Add_C : Ctx := ⟨Tryz.prog, bodyOf Tryz.f78, 123, [fe_ratio_Valid, fe_ratio_gcd, fe_ratio_size, fe_ratio_product, fe_ratio_plus, fe_ratio_over, fe_ratio_signed, fe_ratio_less, fe_ratio_minus], ratio_Add_s0⟩
theorem ratio_Add_Γ : ∀ e ∈ ratio_Add_C.Γ, FeOk ratio_Add_C.P e := (ok_cons ok_ratio_Valid (ok_cons ok_ratio_gcd (ok_cons ok_ratio_size (ok_cons ok_ratio_product (ok_cons ok_ratio_plus (ok_cons ok_ratio_over (ok_cons ok_ratio_signed (ok_cons ok_ratio_less (ok_cons ok_ratio_minus ok_nil)))))))))
def ratio_Add_s1 : List Slot := [.ref 4 (.ptr 4 0), .reg 9 .bool, .ref 10 (.ptr 10 0), .ref 14 (.ptr 14 0), .reg 113 .bool, .box true 4 29 tFrac, .box true 10 212 tU, .box true 14 212 tU]
def ratio_Add_j4 (negative_9 : Bool) (t_113 : Bool) (b_4 : Frac) (num_10 : U) (den_14 : U) (kr : Frac → Int → Prop) : Prop := (if t_113 = true then (kr (0, 0) 5) else (ratio_signed negative_9 num_10.2 den_14.2 (fun r12 => (kr r12.1 r12.2))))
noncomputable def ratio_Add_o_j4 : Orc := ⟨[1, 0, 1, 1, 1, 1, 1, 1, 1, 1, 1, 1, 1], ratio_Add_s1, fun x Φ => ratio_Add_j4 x.1 x.2.1 x.2.2.1 x.2.2.2.1 x.2.2.2.2.1 (fun rb_4 rt_5 => Φ (.ret (encS ratio_Add_s0 (rb_4, rt_5, ()))))⟩
theorem ratio_Add_j4_eq (x : sden ratio_Add_s1) (Φ : Out → Prop) : ratio_Add_o_j4.X x Φ = run ratio_Add_C [] [] 4000 true [1, 0, 1, 1, 1, 1, 1, 1, 1, 1, 1, 1, 1] (encS ratio_Add_s1 x) Φ := by kernel_rfl
theorem ratio_Add_j4_ok : OrcOk ratio_Add_C ratio_Add_o_j4 := orc_of_run hm ratio_Add_Γ orc_nil ratio_Add_j4_eq
def ratio_Add_s2 : List Slot := [.ref 2 (.ptr 2 0), .ref 3 (.ptr 3 0), .ref 4 (.ptr 4 0), .reg 6 (.int .u64), .reg 9 .bool, .ref 10 (.ptr 10 0), .box true 2 29 tFrac, .box true 3 29 tFrac, .box true 4 29 tFrac, .box true 10 212 tU]
def ratio_Add_j3 (g_6 : Int) (negative_9 : Bool) (a_2 : Frac) (b_3 : Frac) (b_4 : Frac) (num_10 : U) (kr : Frac → Int → Prop) : Prop := (if ((num_10.1 == 0) && (num_10.2 == 0)) = true then (kr (0, 1) 0) else (ratio_over num_10 g_6 (fun r8 => (ratio_gcd g_6 r8.2 (fun r9 => (ratio_over num_10 r9 (fun r10 => (if g_6 = 0 then False else (if r9 = 0 then False else (ratio_product (wU64 (Int.tdiv (wU64 (a_2.2)) g_6)) (wU64 (Int.tdiv (wU64 (b_3.2)) r9)) (fun r11 => (if (decide (r10.1.1 > 0)) = true then (ratio_Add_j4 negative_9 true b_4 r10.1 r11 kr) else (ratio_Add_j4 negative_9 (decide (r11.1 > 0)) b_4 r10.1 r11 kr)))))))))))))
noncomputable def ratio_Add_o_j3 : Orc := ⟨[1, 1, 1, 1, 1, 1], ratio_Add_s2, fun x Φ => ratio_Add_j3 x.1 x.2.1 x.2.2.1 x.2.2.2.1 x.2.2.2.2.1 x.2.2.2.2.2.1 (fun rb_4 rt_5 => Φ (.ret (encS ratio_Add_s0 (rb_4, rt_5, ()))))⟩
theorem ratio_Add_j3_eq (x : sden ratio_Add_s2) (Φ : Out → Prop) : ratio_Add_o_j3.X x Φ = run ratio_Add_C [ratio_Add_o_j4] [] 4000 true [1, 1, 1, 1, 1, 1] (encS ratio_Add_s2 x) Φ := by kernel_rfl
theorem ratio_Add_j3_ok : OrcOk ratio_Add_C ratio_Add_o_j3 := orc_of_run hm ratio_Add_Γ (orc_cons ratio_Add_j4_ok orc_nil) ratio_Add_j3_eq
def ratio_Add_s3 : List Slot := [.ref 2 (.ptr 2 0), .ref 3 (.ptr 3 0), .ref 4 (.ptr 4 0), .reg 22 .bool, .box true 2 29 tFrac, .box true 3 29 tFrac, .box true 4 29 tFrac]
def ratio_Add_j2 (t_22 : Bool) (a_2 : Frac) (b_3 : Frac) (b_4 : Frac) (kr : Frac → Int → Prop) : Prop := (if t_22 = true then (kr (0, 0) 1) else (ratio_gcd (wU64 (a_2.2)) (wU64 (b_3.2)) (fun r2 => (ratio_size a_2.1 (fun r3 => (if r2 = 0 then False else (ratio_product r3 (wU64 (Int.tdiv (wU64 (b_3.2)) r2)) (fun r4 => (ratio_size b_3.1 (fun r5 => (if r2 = 0 then False else (ratio_product r5 (wU64 (Int.tdiv (wU64 (a_2.2)) r2)) (fun r6 => (if ((decide (a_2.1 < 0)) == (decide (b_3.1 < 0))) = true then (ratio_plus r4 r6 (fun r7 => (ratio_Add_j3 r2 (decide (a_2.1 < 0)) a_2 b_3 b_4 r7 kr))) else (ratio_less r4 r6 (fun r13 => (if r13 = true then (ratio_minus r6 r4 (fun r14 => (ratio_Add_j3 r2 (!(decide (a_2.1 < 0))) a_2 b_3 b_4 r14 kr))) else (ratio_minus r4 r6 (fun r15 => (ratio_Add_j3 r2 (decide (a_2.1 < 0)) a_2 b_3 b_4 r15 kr))))))))))))))))))))
noncomputable def ratio_Add_o_j2 : Orc := ⟨[1, 0, 1], ratio_Add_s3, fun x Φ => ratio_Add_j2 x.1 x.2.1 x.2.2.1 x.2.2.2.1 (fun rb_4 rt_5 => Φ (.ret (encS ratio_Add_s0 (rb_4, rt_5, ()))))⟩
theorem ratio_Add_j2_eq (x : sden ratio_Add_s3) (Φ : Out → Prop) : ratio_Add_o_j2.X x Φ = run ratio_Add_C [ratio_Add_o_j3] [] 4000 true [1, 0, 1] (encS ratio_Add_s3 x) Φ := by kernel_rfl
theorem ratio_Add_j2_ok : OrcOk ratio_Add_C ratio_Add_o_j2 := orc_of_run hm ratio_Add_Γ (orc_cons ratio_Add_j3_ok orc_nil) ratio_Add_j2_eq
def ratio_Add (a_0 : Frac) (b_1 : Frac) (K : (Frac × Int) → Prop) : Prop := (ratio_Valid a_0 (fun r1 => (if (!r1) = true then (ratio_Add_j2 true a_0 b_1 (0, 0) (fun rb_4 rt_5 => (K (rb_4, rt_5)))) else (ratio_Valid b_1 (fun r16 => (ratio_Add_j2 (!r16) a_0 b_1 (0, 0) (fun rb_4 rt_5 => (K (rb_4, rt_5)))))))))
noncomputable def fe_ratio_Add : Fe := ⟨78, [.val tFrac, .val tFrac], [], [tFrac, .int .i64], false, none, fun x y K => ratio_Add x.1 x.2.1 (fun r => K r (()))⟩
theorem ratio_Add_eq (x) (y) (K) : fe_ratio_Add.X x y K = run ratio_Add_C [ratio_Add_o_j2] [] 4000 true [] (entry [.val tFrac, .val tFrac] [] x y) (retK Tryz.prog [.cell 4 29, .tmp 5] [] [tFrac, .int .i64] K) := by kernel_rfl
theorem ok_ratio_Add : FeOk Tryz.prog fe_ratio_Add := fe_of_run (C := ratio_Add_C) hm ratio_Add_Γ (orc_cons ratio_Add_j2_ok orc_nil) (fn := Tryz.f78) Tryz.func78 rfl rfl (by kernel_rfl) ratio_Add_eq
/-! loftblock/ratio.Sub -/
def ratio_Sub_s0 : List Slot := [.ref 4 (.ptr 4 0), .box true 4 29 tFrac, .reg 5 (.int .i64)]
noncomputable def ratio_Sub_C : Ctx := ⟨Tryz.prog, bodyOf Tryz.f79, 25, [fe_ratio_Valid, fe_ratio_Add], ratio_Sub_s0⟩
theorem ratio_Sub_Γ : ∀ e ∈ ratio_Sub_C.Γ, FeOk ratio_Sub_C.P e := (ok_cons ok_ratio_Valid (ok_cons ok_ratio_Add ok_nil))
def ratio_Sub_s1 : List Slot := [.ref 2 (.ptr 2 0), .ref 3 (.ptr 3 0), .ref 4 (.ptr 4 0), .reg 13 .bool, .box true 2 29 tFrac, .box true 3 29 tFrac, .box true 4 29 tFrac]
def ratio_Sub_j2 (t_13 : Bool) (a_2 : Frac) (b_3 : Frac) (b_4 : Frac) (kr : Frac → Int → Prop) : Prop := (if t_13 = true then (kr (0, 0) 1) else (ratio_Add a_2 ((wI64 (0 - b_3.1)), b_3.2) (fun r2 => (kr r2.1 r2.2))))
noncomputable def ratio_Sub_o_j2 : Orc := ⟨[1, 0, 1], ratio_Sub_s1, fun x Φ => ratio_Sub_j2 x.1 x.2.1 x.2.2.1 x.2.2.2.1 (fun rb_4 rt_5 => Φ (.ret (encS ratio_Sub_s0 (rb_4, rt_5, ()))))⟩
theorem ratio_Sub_j2_eq (x : sden ratio_Sub_s1) (Φ : Out → Prop) : ratio_Sub_o_j2.X x Φ = run ratio_Sub_C [] [] 4000 true [1, 0, 1] (encS ratio_Sub_s1 x) Φ := by kernel_rfl
theorem ratio_Sub_j2_ok : OrcOk ratio_Sub_C ratio_Sub_o_j2 := orc_of_run hm ratio_Sub_Γ orc_nil ratio_Sub_j2_eq
def ratio_Sub (a_0 : Frac) (b_1 : Frac) (K : (Frac × Int) → Prop) : Prop := (ratio_Valid a_0 (fun r1 => (if (!r1) = true then (ratio_Sub_j2 true a_0 b_1 (0, 0) (fun rb_4 rt_5 => (K (rb_4, rt_5)))) else (ratio_Valid b_1 (fun r3 => (ratio_Sub_j2 (!r3) a_0 b_1 (0, 0) (fun rb_4 rt_5 => (K (rb_4, rt_5)))))))))
noncomputable def fe_ratio_Sub : Fe := ⟨79, [.val tFrac, .val tFrac], [], [tFrac, .int .i64], false, none, fun x y K => ratio_Sub x.1 x.2.1 (fun r => K r (()))⟩
theorem ratio_Sub_eq (x) (y) (K) : fe_ratio_Sub.X x y K = run ratio_Sub_C [ratio_Sub_o_j2] [] 4000 true [] (entry [.val tFrac, .val tFrac] [] x y) (retK Tryz.prog [.cell 4 29, .tmp 5] [] [tFrac, .int .i64] K) := by kernel_rfl
theorem ok_ratio_Sub : FeOk Tryz.prog fe_ratio_Sub := fe_of_run (C := ratio_Sub_C) hm ratio_Sub_Γ (orc_cons ratio_Sub_j2_ok orc_nil) (fn := Tryz.f79) Tryz.func79 rfl rfl (by kernel_rfl) ratio_Sub_eq
end Go.Proofs.YtieeiiibamkbmaaGreat.Am
