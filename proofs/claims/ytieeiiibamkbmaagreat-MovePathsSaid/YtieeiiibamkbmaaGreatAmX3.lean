import Derived.Test.YtieeiiibamkbmaaGreatAmX2
import Derived.Test.YtieeiiibamkbmaaGreatProg
namespace Go.Proofs.YtieeiiibamkbmaaGreat.Am
set_option linter.unusedVariables false
set_option maxRecDepth 100000
open Go Go.RowKit
/-! loftblock/loftblockref30.Small -/
def ref30_Small_s0 : List Slot := [.reg 4 .bool]
noncomputable def ref30_Small_C : Ctx := ⟨Tryz.prog, bodyOf Tryz.f72, 55, [fe_ref21_Small], ref30_Small_s0⟩
theorem ref30_Small_Γ : ∀ e ∈ ref30_Small_C.Γ, FeOk ref30_Small_C.P e := (ok_cons ok_ref21_Small ok_nil)
def ref30_Small_s1 : List Slot := [.ref 2 (.ptr 2 0), .box true 2 25 tHouse]
def ref30_Small_s2 : List Slot := [.ref 2 (.ptr 2 0), .reg 5 (.int .i64), .box true 2 25 tHouse]
def ref30_Small_l3N (k0 : House → Prop) (kr : Bool → Prop) : Nat → Int → House → Prop
  | 0, _, _ => False
  | n + 1, i_5, h_2 => (if (decide (i_5 < (len h_2.2.2.1))) = true then ((0 ≤ i_5 ∧ i_5 < len h_2.2.2.1) ∧ (ref21_Small (atSet_ h_2.2.2.1 i_5) 8 (fun r1 => (if (!r1) = true then (kr false) else (ref30_Small_l3N k0 kr n (wI64 (i_5 + 1)) h_2))))) else (k0 h_2))
def ref30_Small_l3 (i_5 : Int) (h_2 : House) (k0 : House → Prop) (kr : Bool → Prop) : Prop := ∃ n, ref30_Small_l3N k0 kr n i_5 h_2
noncomputable def ref30_Small_n_l3 (n : Nat) : Orc := ⟨[0, 0, 1, 0, 1, 1], ref30_Small_s2, fun x Φ => ref30_Small_l3N (fun h_2 => Φ (.stop [1, 1, 1] (encS ref30_Small_s1 (h_2, ())))) (fun rt_4 => Φ (.ret (encS ref30_Small_s0 (rt_4, ())))) n x.1 x.2.1⟩
noncomputable def ref30_Small_o_l3 : Orc := ⟨[0, 0, 1, 0, 1, 1], ref30_Small_s2, fun x Φ => ref30_Small_l3 x.1 x.2.1 (fun h_2 => Φ (.stop [1, 1, 1] (encS ref30_Small_s1 (h_2, ())))) (fun rt_4 => Φ (.ret (encS ref30_Small_s0 (rt_4, ()))))⟩
theorem ref30_Small_l3_eq (n : Nat) (x : sden ref30_Small_s2) (Φ : Out → Prop) : (ref30_Small_n_l3 (n + 1)).X x Φ = run ref30_Small_C [ref30_Small_n_l3 n] [([1, 1, 1], ref30_Small_s1)] 4000 true [0, 0, 1, 0, 1, 1] (encS ref30_Small_s2 x) Φ := by kernel_rfl
theorem ref30_Small_l3_ok : OrcOk ref30_Small_C ref30_Small_o_l3 := orc_loop hm ref30_Small_Γ (on := ref30_Small_n_l3) orc_nil (fun x Φ h => h) ref30_Small_l3_eq (fun x Φ ⟨n, h⟩ => ⟨n, x, h, rfl, rfl⟩)
def ref30_Small_s3 : List Slot := []
def ref30_Small_s4 : List Slot := [.ref 2 (.ptr 2 0), .reg 6 (.int .i64), .box true 2 25 tHouse]
def ref30_Small_l4N (k0 : Prop) (kr : Bool → Prop) : Nat → Int → House → Prop
  | 0, _, _ => False
  | n + 1, i_6, h_2 => (if (decide (i_6 < (len h_2.2.2.2))) = true then ((0 ≤ i_6 ∧ i_6 < len h_2.2.2.2) ∧ (if (decide ((slen (atRoof h_2.2.2.2 i_6).1) > 60)) = true then (kr false) else (ref30_Small_l4N k0 kr n (wI64 (i_6 + 1)) h_2))) else k0)
def ref30_Small_l4 (i_6 : Int) (h_2 : House) (k0 : Prop) (kr : Bool → Prop) : Prop := ∃ n, ref30_Small_l4N k0 kr n i_6 h_2
noncomputable def ref30_Small_n_l4 (n : Nat) : Orc := ⟨[0, 0, 1, 0, 1, 1, 1], ref30_Small_s4, fun x Φ => ref30_Small_l4N (Φ (.stop [1, 1, 1, 1] (encS ref30_Small_s3 ()))) (fun rt_4 => Φ (.ret (encS ref30_Small_s0 (rt_4, ())))) n x.1 x.2.1⟩
noncomputable def ref30_Small_o_l4 : Orc := ⟨[0, 0, 1, 0, 1, 1, 1], ref30_Small_s4, fun x Φ => ref30_Small_l4 x.1 x.2.1 (Φ (.stop [1, 1, 1, 1] (encS ref30_Small_s3 ()))) (fun rt_4 => Φ (.ret (encS ref30_Small_s0 (rt_4, ()))))⟩
theorem ref30_Small_l4_eq (n : Nat) (x : sden ref30_Small_s4) (Φ : Out → Prop) : (ref30_Small_n_l4 (n + 1)).X x Φ = run ref30_Small_C [ref30_Small_n_l4 n] [([1, 1, 1, 1], ref30_Small_s3)] 4000 true [0, 0, 1, 0, 1, 1, 1] (encS ref30_Small_s4 x) Φ := by kernel_rfl
theorem ref30_Small_l4_ok : OrcOk ref30_Small_C ref30_Small_o_l4 := orc_loop hm ref30_Small_Γ (on := ref30_Small_n_l4) orc_nil (fun x Φ h => h) ref30_Small_l4_eq (fun x Φ ⟨n, h⟩ => ⟨n, x, h, rfl, rfl⟩)
def ref30_Small_s5 : List Slot := [.ref 2 (.ptr 2 0), .reg 25 .bool, .box true 2 25 tHouse]
def ref30_Small_j2 (t_25 : Bool) (h_2 : House) (kr : Bool → Prop) : Prop := (if t_25 = true then (kr false) else (ref30_Small_l3 0 h_2 (fun h_2 => (ref30_Small_l4 0 h_2 (kr true) kr)) kr))
noncomputable def ref30_Small_o_j2 : Orc := ⟨[1, 0, 1], ref30_Small_s5, fun x Φ => ref30_Small_j2 x.1 x.2.1 (fun rt_4 => Φ (.ret (encS ref30_Small_s0 (rt_4, ()))))⟩
theorem ref30_Small_j2_eq (x : sden ref30_Small_s5) (Φ : Out → Prop) : ref30_Small_o_j2.X x Φ = run ref30_Small_C [ref30_Small_o_l3, ref30_Small_o_l4] [] 4000 true [1, 0, 1] (encS ref30_Small_s5 x) Φ := by kernel_rfl
theorem ref30_Small_j2_ok : OrcOk ref30_Small_C ref30_Small_o_j2 := orc_of_run hm ref30_Small_Γ (orc_cons ref30_Small_l3_ok (orc_cons ref30_Small_l4_ok orc_nil)) ref30_Small_j2_eq
def ref30_Small (h_0 : House) (most_1 : Int) (K : Bool → Prop) : Prop := (if (decide ((len h_0.2.2.1) > most_1)) = true then (ref30_Small_j2 true h_0 (fun rt_4 => (K rt_4))) else (if (decide ((len h_0.2.2.2) > (wI64 (most_1 + 10)))) = true then (ref30_Small_j2 true h_0 (fun rt_4 => (K rt_4))) else (ref30_Small_j2 (decide ((slen h_0.1) > 60)) h_0 (fun rt_4 => (K rt_4)))))
noncomputable def fe_ref30_Small : Fe := ⟨72, [.val tHouse, .val (.int .i64)], [], [.bool], false, none, fun x y K => ref30_Small x.1 x.2.1 (fun r => K r (()))⟩
theorem ref30_Small_eq (x) (y) (K) : fe_ref30_Small.X x y K = run ref30_Small_C [ref30_Small_o_j2] [] 4000 true [] (entry [.val tHouse, .val (.int .i64)] [] x y) (retK Tryz.prog [.tmp 4] [] [.bool] K) := by kernel_rfl
theorem ok_ref30_Small : FeOk Tryz.prog fe_ref30_Small := fe_of_run (C := ref30_Small_C) hm ref30_Small_Γ (orc_cons ref30_Small_j2_ok orc_nil) (fn := Tryz.f72) Tryz.func72 rfl rfl (by kernel_rfl) ref30_Small_eq
/-! loftblock/loftblocklaw35.few -/
def law35_few_s0 : List Slot := [.reg 4 .bool]
noncomputable def law35_few_C : Ctx := ⟨Tryz.prog, bodyOf Tryz.f15, 13, [fe_ref30_Small], law35_few_s0⟩
theorem law35_few_Γ : ∀ e ∈ law35_few_C.Γ, FeOk law35_few_C.P e := (ok_cons ok_ref30_Small ok_nil)
def law35_few (h_0 : House) (m_1 : Move) (K : Bool → Prop) : Prop := (ref30_Small h_0 8 (fun r1 => (if r1 = true then (K (decide ((slen m_1.1) ≤ 60))) else (K false))))
noncomputable def fe_law35_few : Fe := ⟨15, [.val tHouse, .val tMove], [], [.bool], false, none, fun x y K => law35_few x.1 x.2.1 (fun r => K r (()))⟩
theorem law35_few_eq (x) (y) (K) : fe_law35_few.X x y K = run law35_few_C [] [] 4000 true [] (entry [.val tHouse, .val tMove] [] x y) (retK Tryz.prog [.tmp 4] [] [.bool] K) := by kernel_rfl
theorem ok_law35_few : FeOk Tryz.prog fe_law35_few := fe_of_run (C := law35_few_C) hm law35_few_Γ orc_nil (fn := Tryz.f15) Tryz.func15 rfl rfl (by kernel_rfl) law35_few_eq
/-! loftblock/loftblockref01.Letter -/
def ref01_Letter_s0 : List Slot := [.reg 2 .bool]
noncomputable def ref01_Letter_C : Ctx := ⟨Tryz.prog, bodyOf Tryz.f203, 17, [], ref01_Letter_s0⟩
theorem ref01_Letter_Γ : ∀ e ∈ ref01_Letter_C.Γ, FeOk ref01_Letter_C.P e := ok_nil
def ref01_Letter (c_0 : Int) (K : Bool → Prop) : Prop := (if (decide (c_0 ≥ 97)) = true then (if (decide (c_0 ≤ 122)) = true then (K true) else (if (decide (c_0 ≥ 65)) = true then (K (decide (c_0 ≤ 90))) else (K false))) else (if (decide (c_0 ≥ 65)) = true then (K (decide (c_0 ≤ 90))) else (K false)))
noncomputable def fe_ref01_Letter : Fe := ⟨203, [.val (.int .u8)], [], [.bool], false, none, fun x y K => ref01_Letter x.1 (fun r => K r (()))⟩
theorem ref01_Letter_eq (x) (y) (K) : fe_ref01_Letter.X x y K = run ref01_Letter_C [] [] 4000 true [] (entry [.val (.int .u8)] [] x y) (retK Tryz.prog [.tmp 2] [] [.bool] K) := by kernel_rfl
theorem ok_ref01_Letter : FeOk Tryz.prog fe_ref01_Letter := fe_of_run (C := ref01_Letter_C) hm ref01_Letter_Γ orc_nil (fn := Tryz.f203) Tryz.func203 rfl rfl (by kernel_rfl) ref01_Letter_eq
/-! loftblock/loftblockref01.Digit -/
def ref01_Digit_s0 : List Slot := [.reg 2 .bool]
noncomputable def ref01_Digit_C : Ctx := ⟨Tryz.prog, bodyOf Tryz.f250, 9, [], ref01_Digit_s0⟩
theorem ref01_Digit_Γ : ∀ e ∈ ref01_Digit_C.Γ, FeOk ref01_Digit_C.P e := ok_nil
def ref01_Digit (c_0 : Int) (K : Bool → Prop) : Prop := (if (decide (c_0 ≥ 48)) = true then (K (decide (c_0 ≤ 57))) else (K false))
noncomputable def fe_ref01_Digit : Fe := ⟨250, [.val (.int .u8)], [], [.bool], false, none, fun x y K => ref01_Digit x.1 (fun r => K r (()))⟩
theorem ref01_Digit_eq (x) (y) (K) : fe_ref01_Digit.X x y K = run ref01_Digit_C [] [] 4000 true [] (entry [.val (.int .u8)] [] x y) (retK Tryz.prog [.tmp 2] [] [.bool] K) := by kernel_rfl
theorem ok_ref01_Digit : FeOk Tryz.prog fe_ref01_Digit := fe_of_run (C := ref01_Digit_C) hm ref01_Digit_Γ orc_nil (fn := Tryz.f250) Tryz.func250 rfl rfl (by kernel_rfl) ref01_Digit_eq
/-! loftblock/loftblockref01.word -/
def ref01_word_s0 : List Slot := [.reg 4 (.int .i64)]
noncomputable def ref01_word_C : Ctx := ⟨Tryz.prog, bodyOf Tryz.f204, 30, [fe_ref01_Letter, fe_ref01_Digit], ref01_word_s0⟩
theorem ref01_word_Γ : ∀ e ∈ ref01_word_C.Γ, FeOk ref01_word_C.P e := (ok_cons ok_ref01_Letter (ok_cons ok_ref01_Digit ok_nil))
def ref01_word_s1 : List Slot := [.reg 1 (.int .i64)]
def ref01_word_s2 : List Slot := [.reg 0 .str, .reg 1 (.int .i64)]
def ref01_word_l2N (k0 : Int → Prop) : Nat → ByteArray → Int → Prop
  | 0, _, _ => False
  | n + 1, s_0, i_1 => (if (decide (i_1 < (slen s_0))) = true then ((0 ≤ i_1 ∧ i_1 < slen s_0) ∧ (ref01_Letter (strByte s_0 i_1) (fun r1 => (if r1 = true then (ref01_word_l2N k0 n s_0 (wI64 (i_1 + 1))) else ((0 ≤ i_1 ∧ i_1 < slen s_0) ∧ (ref01_Digit (strByte s_0 i_1) (fun r2 => (if r2 = true then (ref01_word_l2N k0 n s_0 (wI64 (i_1 + 1))) else ((0 ≤ i_1 ∧ i_1 < slen s_0) ∧ (if ((strByte s_0 i_1) == 95) = true then (ref01_word_l2N k0 n s_0 (wI64 (i_1 + 1))) else (k0 i_1))))))))))) else (k0 i_1))
def ref01_word_l2 (s_0 : ByteArray) (i_1 : Int) (k0 : Int → Prop) : Prop := ∃ n, ref01_word_l2N k0 n s_0 i_1
noncomputable def ref01_word_n_l2 (n : Nat) : Orc := ⟨[0, 0, 0, 1], ref01_word_s2, fun x Φ => ref01_word_l2N (fun i_1 => Φ (.stop [1, 1] (encS ref01_word_s1 (i_1, ())))) n x.1 x.2.1⟩
noncomputable def ref01_word_o_l2 : Orc := ⟨[0, 0, 0, 1], ref01_word_s2, fun x Φ => ref01_word_l2 x.1 x.2.1 (fun i_1 => Φ (.stop [1, 1] (encS ref01_word_s1 (i_1, ()))))⟩
theorem ref01_word_l2_eq (n : Nat) (x : sden ref01_word_s2) (Φ : Out → Prop) : (ref01_word_n_l2 (n + 1)).X x Φ = run ref01_word_C [ref01_word_n_l2 n] [([1, 1], ref01_word_s1)] 4000 true [0, 0, 0, 1] (encS ref01_word_s2 x) Φ := by kernel_rfl
theorem ref01_word_l2_ok : OrcOk ref01_word_C ref01_word_o_l2 := orc_loop hm ref01_word_Γ (on := ref01_word_n_l2) orc_nil (fun x Φ h => h) ref01_word_l2_eq (fun x Φ ⟨n, h⟩ => ⟨n, x, h, rfl, rfl⟩)
def ref01_word (s_0 : ByteArray) (i_1 : Int) (K : Int → Prop) : Prop := (ref01_word_l2 s_0 i_1 (fun i_1 => (K i_1)))
noncomputable def fe_ref01_word : Fe := ⟨204, [.val .str, .val (.int .i64)], [], [.int .i64], false, none, fun x y K => ref01_word x.1 x.2.1 (fun r => K r (()))⟩
theorem ref01_word_eq (x) (y) (K) : fe_ref01_word.X x y K = run ref01_word_C [ref01_word_o_l2] [] 4000 true [] (entry [.val .str, .val (.int .i64)] [] x y) (retK Tryz.prog [.tmp 4] [] [.int .i64] K) := by kernel_rfl
theorem ok_ref01_word : FeOk Tryz.prog fe_ref01_word := fe_of_run (C := ref01_word_C) hm ref01_word_Γ (orc_cons ref01_word_l2_ok orc_nil) (fn := Tryz.f204) Tryz.func204 rfl rfl (by kernel_rfl) ref01_word_eq
/-! loftblock/loftblockref01.IsName -/
def ref01_IsName_s0 : List Slot := [.reg 2 .bool]
noncomputable def ref01_IsName_C : Ctx := ⟨Tryz.prog, bodyOf Tryz.f162, 22, [fe_ref01_Letter, fe_ref01_word], ref01_IsName_s0⟩
theorem ref01_IsName_Γ : ∀ e ∈ ref01_IsName_C.Γ, FeOk ref01_IsName_C.P e := (ok_cons ok_ref01_Letter (ok_cons ok_ref01_word ok_nil))
def ref01_IsName (s_0 : ByteArray) (K : Bool → Prop) : Prop := (if ((slen s_0) == 0) = true then (K false) else (if (decide ((slen s_0) > 20)) = true then (K false) else (((0 : Int) ≤ 0 ∧ 0 < slen s_0) ∧ (ref01_Letter (strByte s_0 0) (fun r1 => (if (!r1) = true then (K false) else (ref01_word s_0 0 (fun r2 => (K (r2 == (slen s_0)))))))))))
noncomputable def fe_ref01_IsName : Fe := ⟨162, [.val .str], [], [.bool], false, none, fun x y K => ref01_IsName x.1 (fun r => K r (()))⟩
theorem ref01_IsName_eq (x) (y) (K) : fe_ref01_IsName.X x y K = run ref01_IsName_C [] [] 4000 true [] (entry [.val .str] [] x y) (retK Tryz.prog [.tmp 2] [] [.bool] K) := by kernel_rfl
theorem ok_ref01_IsName : FeOk Tryz.prog fe_ref01_IsName := fe_of_run (C := ref01_IsName_C) hm ref01_IsName_Γ orc_nil (fn := Tryz.f162) Tryz.func162 rfl rfl (by kernel_rfl) ref01_IsName_eq
/-! loftblock/loftblockref19.between -/
def ref19_between_s0 : List Slot := [.reg 6 .bool]
noncomputable def ref19_between_C : Ctx := ⟨Tryz.prog, bodyOf Tryz.f205, 15, [], ref19_between_s0⟩
theorem ref19_between_Γ : ∀ e ∈ ref19_between_C.Γ, FeOk ref19_between_C.P e := ok_nil
def ref19_between (n_0 : Int) (lo_1 : Int) (hi_2 : Int) (K : Bool → Prop) : Prop := (if (decide (n_0 ≥ lo_1)) = true then (K (decide (n_0 ≤ hi_2))) else (K false))
noncomputable def fe_ref19_between : Fe := ⟨205, [.val (.int .i64), .val (.int .i64), .val (.int .i64)], [], [.bool], false, none, fun x y K => ref19_between x.1 x.2.1 x.2.2.1 (fun r => K r (()))⟩
theorem ref19_between_eq (x) (y) (K) : fe_ref19_between.X x y K = run ref19_between_C [] [] 4000 true [] (entry [.val (.int .i64), .val (.int .i64), .val (.int .i64)] [] x y) (retK Tryz.prog [.tmp 6] [] [.bool] K) := by kernel_rfl
theorem ok_ref19_between : FeOk Tryz.prog fe_ref19_between := fe_of_run (C := ref19_between_C) hm ref19_between_Γ orc_nil (fn := Tryz.f205) Tryz.func205 rfl rfl (by kernel_rfl) ref19_between_eq
/-! loftblock/loftblockref19.Valid -/
def ref19_Valid_s0 : List Slot := [.reg 2 .bool]
noncomputable def ref19_Valid_C : Ctx := ⟨Tryz.prog, bodyOf Tryz.f163, 56, [fe_ref01_IsName, fe_ref19_between], ref19_Valid_s0⟩
theorem ref19_Valid_Γ : ∀ e ∈ ref19_Valid_C.Γ, FeOk ref19_Valid_C.P e := (ok_cons ok_ref01_IsName (ok_cons ok_ref19_between ok_nil))
def ref19_Valid_s1 : List Slot := [.reg 0 (.slice tRoof), .reg 3 (.int .i64)]
def ref19_Valid_s2 : List Slot := [.reg 0 (.slice tRoof), .reg 3 (.int .i64), .ref 4 (.ptr 4 0), .reg 5 (.int .i64), .box true 4 209 tRoof]
def ref19_Valid_l4N (k0 : (List Roof) → Int → Prop) (kr : Bool → Prop) : Nat → List Roof → Int → Int → Roof → Prop
  | 0, _, _, _, _ => False
  | n + 1, l_0, i_3, k_5, x_4 => (if (decide (k_5 < i_3)) = true then ((0 ≤ k_5 ∧ k_5 < len l_0) ∧ (if (sEq (atRoof l_0 k_5).1 x_4.1) = true then (kr false) else (ref19_Valid_l4N k0 kr n l_0 i_3 (wI64 (k_5 + 1)) x_4))) else (k0 l_0 i_3))
def ref19_Valid_l4 (l_0 : List Roof) (i_3 : Int) (k_5 : Int) (x_4 : Roof) (k0 : (List Roof) → Int → Prop) (kr : Bool → Prop) : Prop := ∃ n, ref19_Valid_l4N k0 kr n l_0 i_3 k_5 x_4
noncomputable def ref19_Valid_n_l4 (n : Nat) : Orc := ⟨[0, 0, 1, 1, 1, 0, 0, 1, 0, 0, 1, 0, 1, 1], ref19_Valid_s2, fun x Φ => ref19_Valid_l4N (fun l_0 i_3 => Φ (.stop [1, 1, 0, 0, 1, 0, 1, 1] (encS ref19_Valid_s1 (l_0, i_3, ())))) (fun rt_2 => Φ (.ret (encS ref19_Valid_s0 (rt_2, ())))) n x.1 x.2.1 x.2.2.1 x.2.2.2.1⟩
noncomputable def ref19_Valid_o_l4 : Orc := ⟨[0, 0, 1, 1, 1, 0, 0, 1, 0, 0, 1, 0, 1, 1], ref19_Valid_s2, fun x Φ => ref19_Valid_l4 x.1 x.2.1 x.2.2.1 x.2.2.2.1 (fun l_0 i_3 => Φ (.stop [1, 1, 0, 0, 1, 0, 1, 1] (encS ref19_Valid_s1 (l_0, i_3, ())))) (fun rt_2 => Φ (.ret (encS ref19_Valid_s0 (rt_2, ()))))⟩
theorem ref19_Valid_l4_eq (n : Nat) (x : sden ref19_Valid_s2) (Φ : Out → Prop) : (ref19_Valid_n_l4 (n + 1)).X x Φ = run ref19_Valid_C [ref19_Valid_n_l4 n] [([1, 1, 0, 0, 1, 0, 1, 1], ref19_Valid_s1)] 4000 true [0, 0, 1, 1, 1, 0, 0, 1, 0, 0, 1, 0, 1, 1] (encS ref19_Valid_s2 x) Φ := by kernel_rfl
theorem ref19_Valid_l4_ok : OrcOk ref19_Valid_C ref19_Valid_o_l4 := orc_loop hm ref19_Valid_Γ (on := ref19_Valid_n_l4) orc_nil (fun x Φ h => h) ref19_Valid_l4_eq (fun x Φ ⟨n, h⟩ => ⟨n, x, h, rfl, rfl⟩)
def ref19_Valid_s3 : List Slot := [.reg 0 (.slice tRoof), .reg 3 (.int .i64), .ref 4 (.ptr 4 0), .reg 42 .bool, .box true 4 209 tRoof]
def ref19_Valid_j3 (l_0 : List Roof) (i_3 : Int) (t_42 : Bool) (x_4 : Roof) (k0 : (List Roof) → Int → Prop) (kr : Bool → Prop) : Prop := (if t_42 = true then (kr false) else (ref19_Valid_l4 l_0 i_3 0 x_4 (fun l_0 i_3 => (k0 l_0 (wI64 (i_3 + 1)))) kr))
noncomputable def ref19_Valid_o_j3 : Orc := ⟨[1, 0, 1, 0, 0, 1, 0, 0, 1, 0, 1, 1], ref19_Valid_s3, fun x Φ => ref19_Valid_j3 x.1 x.2.1 x.2.2.1 x.2.2.2.1 (fun l_0 i_3 => Φ (.stop [0, 0, 1, 0, 1, 1] (encS ref19_Valid_s1 (l_0, i_3, ())))) (fun rt_2 => Φ (.ret (encS ref19_Valid_s0 (rt_2, ()))))⟩
theorem ref19_Valid_j3_eq (x : sden ref19_Valid_s3) (Φ : Out → Prop) : ref19_Valid_o_j3.X x Φ = run ref19_Valid_C [ref19_Valid_o_l4] [([0, 0, 1, 0, 1, 1], ref19_Valid_s1)] 4000 true [1, 0, 1, 0, 0, 1, 0, 0, 1, 0, 1, 1] (encS ref19_Valid_s3 x) Φ := by kernel_rfl
theorem ref19_Valid_j3_ok : OrcOk ref19_Valid_C ref19_Valid_o_j3 := orc_of_run hm ref19_Valid_Γ (orc_cons ref19_Valid_l4_ok orc_nil) ref19_Valid_j3_eq
def ref19_Valid_s4 : List Slot := []
def ref19_Valid_l2N (k0 : Prop) (kr : Bool → Prop) : Nat → List Roof → Int → Prop
  | 0, _, _ => False
  | n + 1, l_0, i_3 => (if (decide (i_3 < (len l_0))) = true then ((0 ≤ i_3 ∧ i_3 < len l_0) ∧ (ref01_IsName (atRoof l_0 i_3).1 (fun r1 => (if (!r1) = true then (ref19_Valid_j3 l_0 i_3 true (atRoof l_0 i_3) (fun l_0 i_3 => (ref19_Valid_l2N k0 kr n l_0 i_3)) kr) else (ref19_between (atRoof l_0 i_3).2.1 0 (atRoof l_0 i_3).2.2.1 (fun r2 => (if (!r2) = true then (ref19_Valid_j3 l_0 i_3 true (atRoof l_0 i_3) (fun l_0 i_3 => (ref19_Valid_l2N k0 kr n l_0 i_3)) kr) else (ref19_between (atRoof l_0 i_3).2.2.1 0 1048576 (fun r3 => (if (!r3) = true then (ref19_Valid_j3 l_0 i_3 true (atRoof l_0 i_3) (fun l_0 i_3 => (ref19_Valid_l2N k0 kr n l_0 i_3)) kr) else (ref19_between (atRoof l_0 i_3).2.2.2 0 67108864 (fun r4 => (ref19_Valid_j3 l_0 i_3 (!r4) (atRoof l_0 i_3) (fun l_0 i_3 => (ref19_Valid_l2N k0 kr n l_0 i_3)) kr))))))))))))) else k0)
def ref19_Valid_l2 (l_0 : List Roof) (i_3 : Int) (k0 : Prop) (kr : Bool → Prop) : Prop := ∃ n, ref19_Valid_l2N k0 kr n l_0 i_3
noncomputable def ref19_Valid_n_l2 (n : Nat) : Orc := ⟨[0, 0, 1, 0, 1, 1], ref19_Valid_s1, fun x Φ => ref19_Valid_l2N (Φ (.stop [1, 1, 1] (encS ref19_Valid_s4 ()))) (fun rt_2 => Φ (.ret (encS ref19_Valid_s0 (rt_2, ())))) n x.1 x.2.1⟩
noncomputable def ref19_Valid_o_l2 : Orc := ⟨[0, 0, 1, 0, 1, 1], ref19_Valid_s1, fun x Φ => ref19_Valid_l2 x.1 x.2.1 (Φ (.stop [1, 1, 1] (encS ref19_Valid_s4 ()))) (fun rt_2 => Φ (.ret (encS ref19_Valid_s0 (rt_2, ()))))⟩
theorem ref19_Valid_l2_eq (n : Nat) (x : sden ref19_Valid_s1) (Φ : Out → Prop) : (ref19_Valid_n_l2 (n + 1)).X x Φ = run ref19_Valid_C [ref19_Valid_n_l2 n, ref19_Valid_o_j3] [([1, 1, 1], ref19_Valid_s4)] 4000 true [0, 0, 1, 0, 1, 1] (encS ref19_Valid_s1 x) Φ := by kernel_rfl
theorem ref19_Valid_l2_ok : OrcOk ref19_Valid_C ref19_Valid_o_l2 := orc_loop hm ref19_Valid_Γ (on := ref19_Valid_n_l2) (orc_cons ref19_Valid_j3_ok orc_nil) (fun x Φ h => h) ref19_Valid_l2_eq (fun x Φ ⟨n, h⟩ => ⟨n, x, h, rfl, rfl⟩)
def ref19_Valid (l_0 : List Roof) (K : Bool → Prop) : Prop := (if (decide ((len l_0) > 20)) = true then (K false) else (ref19_Valid_l2 l_0 0 (K true) (fun rt_2 => (K rt_2))))
noncomputable def fe_ref19_Valid : Fe := ⟨163, [.val (.slice tRoof)], [], [.bool], false, none, fun x y K => ref19_Valid x.1 (fun r => K r (()))⟩
theorem ref19_Valid_eq (x) (y) (K) : fe_ref19_Valid.X x y K = run ref19_Valid_C [ref19_Valid_o_l2] [] 4000 true [] (entry [.val (.slice tRoof)] [] x y) (retK Tryz.prog [.tmp 2] [] [.bool] K) := by kernel_rfl
theorem ok_ref19_Valid : FeOk Tryz.prog fe_ref19_Valid := fe_of_run (C := ref19_Valid_C) hm ref19_Valid_Γ (orc_cons ref19_Valid_l2_ok orc_nil) (fn := Tryz.f163) Tryz.func163 rfl rfl (by kernel_rfl) ref19_Valid_eq
/-! loftblock/loftblockref21.between -/
def ref21_between_s0 : List Slot := [.reg 6 .bool]
noncomputable def ref21_between_C : Ctx := ⟨Tryz.prog, bodyOf Tryz.f206, 15, [], ref21_between_s0⟩
theorem ref21_between_Γ : ∀ e ∈ ref21_between_C.Γ, FeOk ref21_between_C.P e := ok_nil
def ref21_between (n_0 : Int) (low_1 : Int) (high_2 : Int) (K : Bool → Prop) : Prop := (if (decide (n_0 ≥ low_1)) = true then (K (decide (n_0 ≤ high_2))) else (K false))
noncomputable def fe_ref21_between : Fe := ⟨206, [.val (.int .i64), .val (.int .i64), .val (.int .i64)], [], [.bool], false, none, fun x y K => ref21_between x.1 x.2.1 x.2.2.1 (fun r => K r (()))⟩
theorem ref21_between_eq (x) (y) (K) : fe_ref21_between.X x y K = run ref21_between_C [] [] 4000 true [] (entry [.val (.int .i64), .val (.int .i64), .val (.int .i64)] [] x y) (retK Tryz.prog [.tmp 6] [] [.bool] K) := by kernel_rfl
theorem ok_ref21_between : FeOk Tryz.prog fe_ref21_between := fe_of_run (C := ref21_between_C) hm ref21_between_Γ orc_nil (fn := Tryz.f206) Tryz.func206 rfl rfl (by kernel_rfl) ref21_between_eq
/-! loftblock/loftblockref21.alone -/
def ref21_alone_s0 : List Slot := [.reg 4 .bool]
noncomputable def ref21_alone_C : Ctx := ⟨Tryz.prog, bodyOf Tryz.f251, 42, [fe_ref01_IsName, fe_ref21_between], ref21_alone_s0⟩
theorem ref21_alone_Γ : ∀ e ∈ ref21_alone_C.Γ, FeOk ref21_alone_C.P e := (ok_cons ok_ref01_IsName (ok_cons ok_ref21_between ok_nil))
def ref21_alone (x_0 : Item) (length_1 : Int) (K : Bool → Prop) : Prop := (ref01_IsName x_0.1 (fun r1 => (if r1 = true then (ref21_between x_0.2.2.1 1 1048576 (fun r2 => (if r2 = true then (ref21_between x_0.2.1 0 (wI64 (length_1 - x_0.2.2.1)) (fun r3 => (if r3 = true then (ref21_between x_0.2.2.2.1 0 1048576 (fun r4 => (if r4 = true then (ref21_between x_0.2.2.2.2.1 0 1048576 (fun r5 => (if r5 = true then (ref21_between x_0.2.2.2.2.2.1 0 1048576 (fun r6 => (if r6 = true then (ref21_between x_0.2.2.2.2.2.2 0 1048576 (fun r7 => (K r7))) else (K false)))) else (K false)))) else (K false)))) else (K false)))) else (K false)))) else (K false))))
noncomputable def fe_ref21_alone : Fe := ⟨251, [.val tItem, .val (.int .i64)], [], [.bool], false, none, fun x y K => ref21_alone x.1 x.2.1 (fun r => K r (()))⟩
theorem ref21_alone_eq (x) (y) (K) : fe_ref21_alone.X x y K = run ref21_alone_C [] [] 4000 true [] (entry [.val tItem, .val (.int .i64)] [] x y) (retK Tryz.prog [.tmp 4] [] [.bool] K) := by kernel_rfl
theorem ok_ref21_alone : FeOk Tryz.prog fe_ref21_alone := fe_of_run (C := ref21_alone_C) hm ref21_alone_Γ orc_nil (fn := Tryz.f251) Tryz.func251 rfl rfl (by kernel_rfl) ref21_alone_eq
/-! loftblock/loftblockref21.Apart -/
def ref21_Apart_s0 : List Slot := [.reg 4 .bool]
noncomputable def ref21_Apart_C : Ctx := ⟨Tryz.prog, bodyOf Tryz.f252, 23, [], ref21_Apart_s0⟩
theorem ref21_Apart_Γ : ∀ e ∈ ref21_Apart_C.Γ, FeOk ref21_Apart_C.P e := ok_nil
def ref21_Apart (x_0 : Item) (y_1 : Item) (K : Bool → Prop) : Prop := (if (decide ((wI64 (x_0.2.1 + x_0.2.2.1)) ≤ y_1.2.1)) = true then (K true) else (K (decide ((wI64 (y_1.2.1 + y_1.2.2.1)) ≤ x_0.2.1))))
noncomputable def fe_ref21_Apart : Fe := ⟨252, [.val tItem, .val tItem], [], [.bool], false, none, fun x y K => ref21_Apart x.1 x.2.1 (fun r => K r (()))⟩
theorem ref21_Apart_eq (x) (y) (K) : fe_ref21_Apart.X x y K = run ref21_Apart_C [] [] 4000 true [] (entry [.val tItem, .val tItem] [] x y) (retK Tryz.prog [.tmp 4] [] [.bool] K) := by kernel_rfl
theorem ok_ref21_Apart : FeOk Tryz.prog fe_ref21_Apart := fe_of_run (C := ref21_Apart_C) hm ref21_Apart_Γ orc_nil (fn := Tryz.f252) Tryz.func252 rfl rfl (by kernel_rfl) ref21_Apart_eq
/-! loftblock/loftblockref21.items -/
def ref21_items_s0 : List Slot := [.reg 2 .bool]
noncomputable def ref21_items_C : Ctx := ⟨Tryz.prog, bodyOf Tryz.f207, 57, [fe_ref21_alone, fe_ref21_Apart], ref21_items_s0⟩
theorem ref21_items_Γ : ∀ e ∈ ref21_items_C.Γ, FeOk ref21_items_C.P e := (ok_cons ok_ref21_alone (ok_cons ok_ref21_Apart ok_nil))
def ref21_items_s1 : List Slot := [.ref 1 (.ptr 1 0), .reg 3 (.int .i64), .box true 1 54 tSet_]
def ref21_items_s2 : List Slot := [.ref 1 (.ptr 1 0), .reg 3 (.int .i64), .reg 4 (.int .i64), .box true 1 54 tSet_]
def ref21_items_l3N (k0 : Int → Set_ → Prop) (kr : Bool → Prop) : Nat → Int → Int → Set_ → Prop
  | 0, _, _, _ => False
  | n + 1, i_3, k_4, s_1 => (if (decide (k_4 < i_3)) = true then ((0 ≤ k_4 ∧ k_4 < len s_1.2.2.2.2.2.2.2.2.2.2.2.1) ∧ ((0 ≤ i_3 ∧ i_3 < len s_1.2.2.2.2.2.2.2.2.2.2.2.1) ∧ (if (sEq (atItem s_1.2.2.2.2.2.2.2.2.2.2.2.1 k_4).1 (atItem s_1.2.2.2.2.2.2.2.2.2.2.2.1 i_3).1) = true then (kr false) else ((0 ≤ k_4 ∧ k_4 < len s_1.2.2.2.2.2.2.2.2.2.2.2.1) ∧ ((0 ≤ i_3 ∧ i_3 < len s_1.2.2.2.2.2.2.2.2.2.2.2.1) ∧ (ref21_Apart (atItem s_1.2.2.2.2.2.2.2.2.2.2.2.1 k_4) (atItem s_1.2.2.2.2.2.2.2.2.2.2.2.1 i_3) (fun r2 => (if (!r2) = true then (kr false) else (ref21_items_l3N k0 kr n i_3 (wI64 (k_4 + 1)) s_1))))))))) else (k0 i_3 s_1))
def ref21_items_l3 (i_3 : Int) (k_4 : Int) (s_1 : Set_) (k0 : Int → Set_ → Prop) (kr : Bool → Prop) : Prop := ∃ n, ref21_items_l3N k0 kr n i_3 k_4 s_1
noncomputable def ref21_items_n_l3 (n : Nat) : Orc := ⟨[0, 0, 1, 1, 0, 0, 1, 0, 0, 1, 0, 1, 1], ref21_items_s2, fun x Φ => ref21_items_l3N (fun i_3 s_1 => Φ (.stop [1, 1, 0, 0, 1, 0, 1, 1] (encS ref21_items_s1 (i_3, s_1, ())))) (fun rt_2 => Φ (.ret (encS ref21_items_s0 (rt_2, ())))) n x.1 x.2.1 x.2.2.1⟩
noncomputable def ref21_items_o_l3 : Orc := ⟨[0, 0, 1, 1, 0, 0, 1, 0, 0, 1, 0, 1, 1], ref21_items_s2, fun x Φ => ref21_items_l3 x.1 x.2.1 x.2.2.1 (fun i_3 s_1 => Φ (.stop [1, 1, 0, 0, 1, 0, 1, 1] (encS ref21_items_s1 (i_3, s_1, ())))) (fun rt_2 => Φ (.ret (encS ref21_items_s0 (rt_2, ()))))⟩
theorem ref21_items_l3_eq (n : Nat) (x : sden ref21_items_s2) (Φ : Out → Prop) : (ref21_items_n_l3 (n + 1)).X x Φ = run ref21_items_C [ref21_items_n_l3 n] [([1, 1, 0, 0, 1, 0, 1, 1], ref21_items_s1)] 4000 true [0, 0, 1, 1, 0, 0, 1, 0, 0, 1, 0, 1, 1] (encS ref21_items_s2 x) Φ := by kernel_rfl
theorem ref21_items_l3_ok : OrcOk ref21_items_C ref21_items_o_l3 := orc_loop hm ref21_items_Γ (on := ref21_items_n_l3) orc_nil (fun x Φ h => h) ref21_items_l3_eq (fun x Φ ⟨n, h⟩ => ⟨n, x, h, rfl, rfl⟩)
def ref21_items_s3 : List Slot := []
def ref21_items_l2N (k0 : Prop) (kr : Bool → Prop) : Nat → Int → Set_ → Prop
  | 0, _, _ => False
  | n + 1, i_3, s_1 => (if (decide (i_3 < (len s_1.2.2.2.2.2.2.2.2.2.2.2.1))) = true then ((0 ≤ i_3 ∧ i_3 < len s_1.2.2.2.2.2.2.2.2.2.2.2.1) ∧ (ref21_alone (atItem s_1.2.2.2.2.2.2.2.2.2.2.2.1 i_3) s_1.2.2.2.2.1 (fun r1 => (if (!r1) = true then (kr false) else (ref21_items_l3 i_3 0 s_1 (fun i_3 s_1 => (ref21_items_l2N k0 kr n (wI64 (i_3 + 1)) s_1)) kr))))) else k0)
def ref21_items_l2 (i_3 : Int) (s_1 : Set_) (k0 : Prop) (kr : Bool → Prop) : Prop := ∃ n, ref21_items_l2N k0 kr n i_3 s_1
noncomputable def ref21_items_n_l2 (n : Nat) : Orc := ⟨[0, 0, 1, 0, 1, 1], ref21_items_s1, fun x Φ => ref21_items_l2N (Φ (.stop [1, 1, 1] (encS ref21_items_s3 ()))) (fun rt_2 => Φ (.ret (encS ref21_items_s0 (rt_2, ())))) n x.1 x.2.1⟩
noncomputable def ref21_items_o_l2 : Orc := ⟨[0, 0, 1, 0, 1, 1], ref21_items_s1, fun x Φ => ref21_items_l2 x.1 x.2.1 (Φ (.stop [1, 1, 1] (encS ref21_items_s3 ()))) (fun rt_2 => Φ (.ret (encS ref21_items_s0 (rt_2, ()))))⟩
theorem ref21_items_l2_eq (n : Nat) (x : sden ref21_items_s1) (Φ : Out → Prop) : (ref21_items_n_l2 (n + 1)).X x Φ = run ref21_items_C [ref21_items_n_l2 n, ref21_items_o_l3] [([1, 1, 1], ref21_items_s3)] 4000 true [0, 0, 1, 0, 1, 1] (encS ref21_items_s1 x) Φ := by kernel_rfl
theorem ref21_items_l2_ok : OrcOk ref21_items_C ref21_items_o_l2 := orc_loop hm ref21_items_Γ (on := ref21_items_n_l2) (orc_cons ref21_items_l3_ok orc_nil) (fun x Φ h => h) ref21_items_l2_eq (fun x Φ ⟨n, h⟩ => ⟨n, x, h, rfl, rfl⟩)
def ref21_items (s_0 : Set_) (K : Bool → Prop) : Prop := (if (decide ((len s_0.2.2.2.2.2.2.2.2.2.2.2.1) > 40)) = true then (K false) else (ref21_items_l2 0 s_0 (K true) (fun rt_2 => (K rt_2))))
noncomputable def fe_ref21_items : Fe := ⟨207, [.val tSet_], [], [.bool], false, none, fun x y K => ref21_items x.1 (fun r => K r (()))⟩
theorem ref21_items_eq (x) (y) (K) : fe_ref21_items.X x y K = run ref21_items_C [ref21_items_o_l2] [] 4000 true [] (entry [.val tSet_] [] x y) (retK Tryz.prog [.tmp 2] [] [.bool] K) := by kernel_rfl
theorem ok_ref21_items : FeOk Tryz.prog fe_ref21_items := fe_of_run (C := ref21_items_C) hm ref21_items_Γ (orc_cons ref21_items_l2_ok orc_nil) (fn := Tryz.f207) Tryz.func207 rfl rfl (by kernel_rfl) ref21_items_eq
/-! loftblock/loftblockref21.Bricks -/
def ref21_Bricks_s0 : List Slot := [.reg 2 .bool]
noncomputable def ref21_Bricks_C : Ctx := ⟨Tryz.prog, bodyOf Tryz.f208, 65, [fe_ref01_IsName, fe_ref21_between], ref21_Bricks_s0⟩
theorem ref21_Bricks_Γ : ∀ e ∈ ref21_Bricks_C.Γ, FeOk ref21_Bricks_C.P e := (ok_cons ok_ref01_IsName (ok_cons ok_ref21_between ok_nil))
def ref21_Bricks_s1 : List Slot := [.reg 0 (.slice tBrick), .reg 3 (.int .i64), .reg 4 (.int .i64)]
def ref21_Bricks_s2 : List Slot := [.reg 0 (.slice tBrick), .reg 3 (.int .i64), .reg 4 (.int .i64), .reg 5 (.int .i64)]
def ref21_Bricks_l4N (k0 : (List Brick) → Int → Int → Prop) (kr : Bool → Prop) : Nat → List Brick → Int → Int → Int → Prop
  | 0, _, _, _, _ => False
  | n + 1, l_0, sum_3, i_4, k_5 => (if (decide (k_5 < i_4)) = true then ((0 ≤ k_5 ∧ k_5 < len l_0) ∧ ((0 ≤ i_4 ∧ i_4 < len l_0) ∧ (if (sEq (atBrick l_0 k_5).1 (atBrick l_0 i_4).1) = true then (kr false) else (ref21_Bricks_l4N k0 kr n l_0 sum_3 i_4 (wI64 (k_5 + 1)))))) else (k0 l_0 sum_3 i_4))
def ref21_Bricks_l4 (l_0 : List Brick) (sum_3 : Int) (i_4 : Int) (k_5 : Int) (k0 : (List Brick) → Int → Int → Prop) (kr : Bool → Prop) : Prop := ∃ n, ref21_Bricks_l4N k0 kr n l_0 sum_3 i_4 k_5
noncomputable def ref21_Bricks_n_l4 (n : Nat) : Orc := ⟨[0, 0, 1, 1, 1, 0, 0, 1, 0, 0, 1, 0, 1, 1, 1], ref21_Bricks_s2, fun x Φ => ref21_Bricks_l4N (fun l_0 sum_3 i_4 => Φ (.stop [1, 1, 0, 0, 1, 0, 1, 1, 1] (encS ref21_Bricks_s1 (l_0, sum_3, i_4, ())))) (fun rt_2 => Φ (.ret (encS ref21_Bricks_s0 (rt_2, ())))) n x.1 x.2.1 x.2.2.1 x.2.2.2.1⟩
noncomputable def ref21_Bricks_o_l4 : Orc := ⟨[0, 0, 1, 1, 1, 0, 0, 1, 0, 0, 1, 0, 1, 1, 1], ref21_Bricks_s2, fun x Φ => ref21_Bricks_l4 x.1 x.2.1 x.2.2.1 x.2.2.2.1 (fun l_0 sum_3 i_4 => Φ (.stop [1, 1, 0, 0, 1, 0, 1, 1, 1] (encS ref21_Bricks_s1 (l_0, sum_3, i_4, ())))) (fun rt_2 => Φ (.ret (encS ref21_Bricks_s0 (rt_2, ()))))⟩
theorem ref21_Bricks_l4_eq (n : Nat) (x : sden ref21_Bricks_s2) (Φ : Out → Prop) : (ref21_Bricks_n_l4 (n + 1)).X x Φ = run ref21_Bricks_C [ref21_Bricks_n_l4 n] [([1, 1, 0, 0, 1, 0, 1, 1, 1], ref21_Bricks_s1)] 4000 true [0, 0, 1, 1, 1, 0, 0, 1, 0, 0, 1, 0, 1, 1, 1] (encS ref21_Bricks_s2 x) Φ := by kernel_rfl
theorem ref21_Bricks_l4_ok : OrcOk ref21_Bricks_C ref21_Bricks_o_l4 := orc_loop hm ref21_Bricks_Γ (on := ref21_Bricks_n_l4) orc_nil (fun x Φ h => h) ref21_Bricks_l4_eq (fun x Φ ⟨n, h⟩ => ⟨n, x, h, rfl, rfl⟩)
def ref21_Bricks_s3 : List Slot := [.reg 0 (.slice tBrick), .reg 3 (.int .i64), .reg 4 (.int .i64), .reg 39 .bool]
def ref21_Bricks_j3 (l_0 : List Brick) (sum_3 : Int) (i_4 : Int) (t_39 : Bool) (k0 : (List Brick) → Int → Int → Prop) (kr : Bool → Prop) : Prop := (if t_39 = true then (kr false) else ((0 ≤ i_4 ∧ i_4 < len l_0) ∧ (ref21_Bricks_l4 l_0 (wI64 (sum_3 + (atBrick l_0 i_4).2.2)) i_4 0 (fun l_0 sum_3 i_4 => (k0 l_0 sum_3 (wI64 (i_4 + 1)))) kr)))
noncomputable def ref21_Bricks_o_j3 : Orc := ⟨[1, 0, 0, 0, 1, 0, 0, 1, 0, 1, 1, 1], ref21_Bricks_s3, fun x Φ => ref21_Bricks_j3 x.1 x.2.1 x.2.2.1 x.2.2.2.1 (fun l_0 sum_3 i_4 => Φ (.stop [0, 0, 1, 0, 1, 1, 1] (encS ref21_Bricks_s1 (l_0, sum_3, i_4, ())))) (fun rt_2 => Φ (.ret (encS ref21_Bricks_s0 (rt_2, ()))))⟩
theorem ref21_Bricks_j3_eq (x : sden ref21_Bricks_s3) (Φ : Out → Prop) : ref21_Bricks_o_j3.X x Φ = run ref21_Bricks_C [ref21_Bricks_o_l4] [([0, 0, 1, 0, 1, 1, 1], ref21_Bricks_s1)] 4000 true [1, 0, 0, 0, 1, 0, 0, 1, 0, 1, 1, 1] (encS ref21_Bricks_s3 x) Φ := by kernel_rfl
theorem ref21_Bricks_j3_ok : OrcOk ref21_Bricks_C ref21_Bricks_o_j3 := orc_of_run hm ref21_Bricks_Γ (orc_cons ref21_Bricks_l4_ok orc_nil) ref21_Bricks_j3_eq
def ref21_Bricks_s4 : List Slot := [.reg 3 (.int .i64)]
def ref21_Bricks_l2N (k0 : Int → Prop) (kr : Bool → Prop) : Nat → List Brick → Int → Int → Prop
  | 0, _, _, _ => False
  | n + 1, l_0, sum_3, i_4 => (if (decide (i_4 < (len l_0))) = true then ((0 ≤ i_4 ∧ i_4 < len l_0) ∧ (ref01_IsName (atBrick l_0 i_4).1 (fun r1 => (if (!r1) = true then (ref21_Bricks_j3 l_0 sum_3 i_4 true (fun l_0 sum_3 i_4 => (ref21_Bricks_l2N k0 kr n l_0 sum_3 i_4)) kr) else ((0 ≤ i_4 ∧ i_4 < len l_0) ∧ (ref21_between (atBrick l_0 i_4).2.1 1 1048576 (fun r2 => (if (!r2) = true then (ref21_Bricks_j3 l_0 sum_3 i_4 true (fun l_0 sum_3 i_4 => (ref21_Bricks_l2N k0 kr n l_0 sum_3 i_4)) kr) else ((0 ≤ i_4 ∧ i_4 < len l_0) ∧ (ref21_between (atBrick l_0 i_4).2.2 0 60 (fun r3 => (ref21_Bricks_j3 l_0 sum_3 i_4 (!r3) (fun l_0 sum_3 i_4 => (ref21_Bricks_l2N k0 kr n l_0 sum_3 i_4)) kr)))))))))))) else (k0 sum_3))
def ref21_Bricks_l2 (l_0 : List Brick) (sum_3 : Int) (i_4 : Int) (k0 : Int → Prop) (kr : Bool → Prop) : Prop := ∃ n, ref21_Bricks_l2N k0 kr n l_0 sum_3 i_4
noncomputable def ref21_Bricks_n_l2 (n : Nat) : Orc := ⟨[0, 0, 1, 0, 1, 1, 1], ref21_Bricks_s1, fun x Φ => ref21_Bricks_l2N (fun sum_3 => Φ (.stop [1, 1, 1, 1] (encS ref21_Bricks_s4 (sum_3, ())))) (fun rt_2 => Φ (.ret (encS ref21_Bricks_s0 (rt_2, ())))) n x.1 x.2.1 x.2.2.1⟩
noncomputable def ref21_Bricks_o_l2 : Orc := ⟨[0, 0, 1, 0, 1, 1, 1], ref21_Bricks_s1, fun x Φ => ref21_Bricks_l2 x.1 x.2.1 x.2.2.1 (fun sum_3 => Φ (.stop [1, 1, 1, 1] (encS ref21_Bricks_s4 (sum_3, ())))) (fun rt_2 => Φ (.ret (encS ref21_Bricks_s0 (rt_2, ()))))⟩
theorem ref21_Bricks_l2_eq (n : Nat) (x : sden ref21_Bricks_s1) (Φ : Out → Prop) : (ref21_Bricks_n_l2 (n + 1)).X x Φ = run ref21_Bricks_C [ref21_Bricks_n_l2 n, ref21_Bricks_o_j3] [([1, 1, 1, 1], ref21_Bricks_s4)] 4000 true [0, 0, 1, 0, 1, 1, 1] (encS ref21_Bricks_s1 x) Φ := by kernel_rfl
theorem ref21_Bricks_l2_ok : OrcOk ref21_Bricks_C ref21_Bricks_o_l2 := orc_loop hm ref21_Bricks_Γ (on := ref21_Bricks_n_l2) (orc_cons ref21_Bricks_j3_ok orc_nil) (fun x Φ h => h) ref21_Bricks_l2_eq (fun x Φ ⟨n, h⟩ => ⟨n, x, h, rfl, rfl⟩)
def ref21_Bricks (l_0 : List Brick) (K : Bool → Prop) : Prop := (if (decide ((len l_0) > 8)) = true then (K false) else (ref21_Bricks_l2 l_0 0 0 (fun sum_3 => (K (decide (sum_3 ≤ 60)))) (fun rt_2 => (K rt_2))))
noncomputable def fe_ref21_Bricks : Fe := ⟨208, [.val (.slice tBrick)], [], [.bool], false, none, fun x y K => ref21_Bricks x.1 (fun r => K r (()))⟩
theorem ref21_Bricks_eq (x) (y) (K) : fe_ref21_Bricks.X x y K = run ref21_Bricks_C [ref21_Bricks_o_l2] [] 4000 true [] (entry [.val (.slice tBrick)] [] x y) (retK Tryz.prog [.tmp 2] [] [.bool] K) := by kernel_rfl
theorem ok_ref21_Bricks : FeOk Tryz.prog fe_ref21_Bricks := fe_of_run (C := ref21_Bricks_C) hm ref21_Bricks_Γ (orc_cons ref21_Bricks_l2_ok orc_nil) (fn := Tryz.f208) Tryz.func208 rfl rfl (by kernel_rfl) ref21_Bricks_eq
/-! loftblock/loftblockref21.Valid -/
def ref21_Valid_s0 : List Slot := [.reg 2 .bool]
noncomputable def ref21_Valid_C : Ctx := ⟨Tryz.prog, bodyOf Tryz.f164, 116, [fe_ref01_IsName, fe_ref21_between, fe_ref21_items, fe_ref21_Bricks], ref21_Valid_s0⟩
theorem ref21_Valid_Γ : ∀ e ∈ ref21_Valid_C.Γ, FeOk ref21_Valid_C.P e := (ok_cons ok_ref01_IsName (ok_cons ok_ref21_between (ok_cons ok_ref21_items (ok_cons ok_ref21_Bricks ok_nil))))
def ref21_Valid_s1 : List Slot := [.ref 1 (.ptr 1 0), .box true 1 54 tSet_]
def ref21_Valid_s2 : List Slot := [.ref 1 (.ptr 1 0), .reg 3 (.int .i64), .box true 1 54 tSet_]
def ref21_Valid_l4N (k0 : Set_ → Prop) (kr : Bool → Prop) : Nat → Int → Set_ → Prop
  | 0, _, _ => False
  | n + 1, i_3, s_1 => (if (decide (i_3 < (len s_1.2.2.2.2.2.1))) = true then ((0 ≤ i_3 ∧ i_3 < len s_1.2.2.2.2.2.1) ∧ (ref21_between (atI s_1.2.2.2.2.2.1 i_3) 0 s_1.2.2.2.2.1 (fun r3 => (if (!r3) = true then (kr false) else (if (decide (i_3 > 0)) = true then ((0 ≤ i_3 ∧ i_3 < len s_1.2.2.2.2.2.1) ∧ ((0 ≤ (wI64 (i_3 - 1)) ∧ (wI64 (i_3 - 1)) < len s_1.2.2.2.2.2.1) ∧ (if (decide ((atI s_1.2.2.2.2.2.1 i_3) ≤ (atI s_1.2.2.2.2.2.1 (wI64 (i_3 - 1))))) = true then (kr false) else (ref21_Valid_l4N k0 kr n (wI64 (i_3 + 1)) s_1)))) else (ref21_Valid_l4N k0 kr n (wI64 (i_3 + 1)) s_1)))))) else (k0 s_1))
def ref21_Valid_l4 (i_3 : Int) (s_1 : Set_) (k0 : Set_ → Prop) (kr : Bool → Prop) : Prop := ∃ n, ref21_Valid_l4N k0 kr n i_3 s_1
noncomputable def ref21_Valid_n_l4 (n : Nat) : Orc := ⟨[0, 0, 1, 0, 1, 1, 1], ref21_Valid_s2, fun x Φ => ref21_Valid_l4N (fun s_1 => Φ (.stop [1, 1, 1, 1] (encS ref21_Valid_s1 (s_1, ())))) (fun rt_2 => Φ (.ret (encS ref21_Valid_s0 (rt_2, ())))) n x.1 x.2.1⟩
noncomputable def ref21_Valid_o_l4 : Orc := ⟨[0, 0, 1, 0, 1, 1, 1], ref21_Valid_s2, fun x Φ => ref21_Valid_l4 x.1 x.2.1 (fun s_1 => Φ (.stop [1, 1, 1, 1] (encS ref21_Valid_s1 (s_1, ())))) (fun rt_2 => Φ (.ret (encS ref21_Valid_s0 (rt_2, ()))))⟩
theorem ref21_Valid_l4_eq (n : Nat) (x : sden ref21_Valid_s2) (Φ : Out → Prop) : (ref21_Valid_n_l4 (n + 1)).X x Φ = run ref21_Valid_C [ref21_Valid_n_l4 n] [([1, 1, 1, 1], ref21_Valid_s1)] 4000 true [0, 0, 1, 0, 1, 1, 1] (encS ref21_Valid_s2 x) Φ := by kernel_rfl
theorem ref21_Valid_l4_ok : OrcOk ref21_Valid_C ref21_Valid_o_l4 := orc_loop hm ref21_Valid_Γ (on := ref21_Valid_n_l4) orc_nil (fun x Φ h => h) ref21_Valid_l4_eq (fun x Φ ⟨n, h⟩ => ⟨n, x, h, rfl, rfl⟩)
def ref21_Valid_s3 : List Slot := [.ref 1 (.ptr 1 0), .reg 74 .bool, .box true 1 54 tSet_]
def ref21_Valid_j3 (t_74 : Bool) (s_1 : Set_) (kr : Bool → Prop) : Prop := (if t_74 = true then (kr false) else (ref21_Valid_l4 0 s_1 (fun s_1 => (ref21_items s_1 (fun r4 => (if r4 = true then (ref21_Bricks s_1.2.2.2.2.2.2.2.2.2.2.2.2 (fun r5 => (kr r5))) else (kr false))))) kr))
noncomputable def ref21_Valid_o_j3 : Orc := ⟨[1, 0, 1, 1], ref21_Valid_s3, fun x Φ => ref21_Valid_j3 x.1 x.2.1 (fun rt_2 => Φ (.ret (encS ref21_Valid_s0 (rt_2, ()))))⟩
theorem ref21_Valid_j3_eq (x : sden ref21_Valid_s3) (Φ : Out → Prop) : ref21_Valid_o_j3.X x Φ = run ref21_Valid_C [ref21_Valid_o_l4] [] 4000 true [1, 0, 1, 1] (encS ref21_Valid_s3 x) Φ := by kernel_rfl
theorem ref21_Valid_j3_ok : OrcOk ref21_Valid_C ref21_Valid_o_j3 := orc_of_run hm ref21_Valid_Γ (orc_cons ref21_Valid_l4_ok orc_nil) ref21_Valid_j3_eq
def ref21_Valid_s4 : List Slot := [.ref 1 (.ptr 1 0), .reg 39 .bool, .box true 1 54 tSet_]
def ref21_Valid_j2 (t_39 : Bool) (s_1 : Set_) (kr : Bool → Prop) : Prop := (if t_39 = true then (kr false) else (ref21_between (len s_1.2.2.2.2.2.1) 2 10 (fun r2 => (if (!r2) = true then (ref21_Valid_j3 true s_1 kr) else (ref21_between s_1.2.2.2.2.2.2.1 0 1048576 (fun r6 => (if (!r6) = true then (ref21_Valid_j3 true s_1 kr) else (ref21_between s_1.2.2.2.2.2.2.2.1 0 1048576 (fun r7 => (if (!r7) = true then (ref21_Valid_j3 true s_1 kr) else (ref21_between s_1.2.2.2.2.2.2.2.2.1 1 2 (fun r8 => (if (!r8) = true then (ref21_Valid_j3 true s_1 kr) else (ref21_between s_1.2.2.2.2.2.2.2.2.2.1 1 67108864 (fun r9 => (if (!r9) = true then (ref21_Valid_j3 true s_1 kr) else (ref21_between s_1.2.2.2.2.2.2.2.2.2.2.1 0 67108864 (fun r10 => (ref21_Valid_j3 (!r10) s_1 kr)))))))))))))))))))
noncomputable def ref21_Valid_o_j2 : Orc := ⟨[1, 0, 1], ref21_Valid_s4, fun x Φ => ref21_Valid_j2 x.1 x.2.1 (fun rt_2 => Φ (.ret (encS ref21_Valid_s0 (rt_2, ()))))⟩
theorem ref21_Valid_j2_eq (x : sden ref21_Valid_s4) (Φ : Out → Prop) : ref21_Valid_o_j2.X x Φ = run ref21_Valid_C [ref21_Valid_o_j3] [] 4000 true [1, 0, 1] (encS ref21_Valid_s4 x) Φ := by kernel_rfl
theorem ref21_Valid_j2_ok : OrcOk ref21_Valid_C ref21_Valid_o_j2 := orc_of_run hm ref21_Valid_Γ (orc_cons ref21_Valid_j3_ok orc_nil) ref21_Valid_j2_eq
def ref21_Valid (s_0 : Set_) (K : Bool → Prop) : Prop := (ref01_IsName s_0.1 (fun r1 => (if (!r1) = true then (ref21_Valid_j2 true s_0 (fun rt_2 => (K rt_2))) else (ref21_between s_0.2.1 0 1048576 (fun r11 => (if (!r11) = true then (ref21_Valid_j2 true s_0 (fun rt_2 => (K rt_2))) else (ref21_between s_0.2.2.1 0 s_0.2.2.2.1 (fun r12 => (if (!r12) = true then (ref21_Valid_j2 true s_0 (fun rt_2 => (K rt_2))) else (ref21_between s_0.2.2.2.1 0 1048576 (fun r13 => (if (!r13) = true then (ref21_Valid_j2 true s_0 (fun rt_2 => (K rt_2))) else (ref21_between s_0.2.2.2.2.1 1000 1048576 (fun r14 => (if (!r14) = true then (ref21_Valid_j2 true s_0 (fun rt_2 => (K rt_2))) else (ref21_Valid_j2 ((Int.tmod s_0.2.2.2.2.1 1000) != 0) s_0 (fun rt_2 => (K rt_2))))))))))))))))))
noncomputable def fe_ref21_Valid : Fe := ⟨164, [.val tSet_], [], [.bool], false, none, fun x y K => ref21_Valid x.1 (fun r => K r (()))⟩
theorem ref21_Valid_eq (x) (y) (K) : fe_ref21_Valid.X x y K = run ref21_Valid_C [ref21_Valid_o_j2] [] 4000 true [] (entry [.val tSet_] [] x y) (retK Tryz.prog [.tmp 2] [] [.bool] K) := by kernel_rfl
theorem ok_ref21_Valid : FeOk Tryz.prog fe_ref21_Valid := fe_of_run (C := ref21_Valid_C) hm ref21_Valid_Γ (orc_cons ref21_Valid_j2_ok orc_nil) (fn := Tryz.f164) Tryz.func164 rfl rfl (by kernel_rfl) ref21_Valid_eq
/-! loftblock/loftblockref30.FindSet -/
def ref30_FindSet_s0 : List Slot := [.reg 4 (.int .i64)]
noncomputable def ref30_FindSet_C : Ctx := ⟨Tryz.prog, bodyOf Tryz.f98, 22, [], ref30_FindSet_s0⟩
theorem ref30_FindSet_Γ : ∀ e ∈ ref30_FindSet_C.Γ, FeOk ref30_FindSet_C.P e := ok_nil
def ref30_FindSet_s1 : List Slot := []
def ref30_FindSet_s2 : List Slot := [.reg 1 .str, .ref 2 (.ptr 2 0), .reg 5 (.int .i64), .box true 2 25 tHouse]
def ref30_FindSet_l2N (k0 : Prop) (kr : Int → Prop) : Nat → ByteArray → Int → House → Prop
  | 0, _, _, _ => False
  | n + 1, name_1, i_5, h_2 => (if (decide (i_5 < (len h_2.2.2.1))) = true then ((0 ≤ i_5 ∧ i_5 < len h_2.2.2.1) ∧ (if (sEq (atSet_ h_2.2.2.1 i_5).1 name_1) = true then (kr i_5) else (ref30_FindSet_l2N k0 kr n name_1 (wI64 (i_5 + 1)) h_2))) else k0)
def ref30_FindSet_l2 (name_1 : ByteArray) (i_5 : Int) (h_2 : House) (k0 : Prop) (kr : Int → Prop) : Prop := ∃ n, ref30_FindSet_l2N k0 kr n name_1 i_5 h_2
noncomputable def ref30_FindSet_n_l2 (n : Nat) : Orc := ⟨[0, 0, 1, 0, 1], ref30_FindSet_s2, fun x Φ => ref30_FindSet_l2N (Φ (.stop [1, 1] (encS ref30_FindSet_s1 ()))) (fun rt_4 => Φ (.ret (encS ref30_FindSet_s0 (rt_4, ())))) n x.1 x.2.1 x.2.2.1⟩
noncomputable def ref30_FindSet_o_l2 : Orc := ⟨[0, 0, 1, 0, 1], ref30_FindSet_s2, fun x Φ => ref30_FindSet_l2 x.1 x.2.1 x.2.2.1 (Φ (.stop [1, 1] (encS ref30_FindSet_s1 ()))) (fun rt_4 => Φ (.ret (encS ref30_FindSet_s0 (rt_4, ()))))⟩
theorem ref30_FindSet_l2_eq (n : Nat) (x : sden ref30_FindSet_s2) (Φ : Out → Prop) : (ref30_FindSet_n_l2 (n + 1)).X x Φ = run ref30_FindSet_C [ref30_FindSet_n_l2 n] [([1, 1], ref30_FindSet_s1)] 4000 true [0, 0, 1, 0, 1] (encS ref30_FindSet_s2 x) Φ := by kernel_rfl
theorem ref30_FindSet_l2_ok : OrcOk ref30_FindSet_C ref30_FindSet_o_l2 := orc_loop hm ref30_FindSet_Γ (on := ref30_FindSet_n_l2) orc_nil (fun x Φ h => h) ref30_FindSet_l2_eq (fun x Φ ⟨n, h⟩ => ⟨n, x, h, rfl, rfl⟩)
def ref30_FindSet (h_0 : House) (name_1 : ByteArray) (K : Int → Prop) : Prop := (ref30_FindSet_l2 name_1 0 h_0 (K (-1)) (fun rt_4 => (K rt_4)))
noncomputable def fe_ref30_FindSet : Fe := ⟨98, [.val tHouse, .val .str], [], [.int .i64], false, none, fun x y K => ref30_FindSet x.1 x.2.1 (fun r => K r (()))⟩
theorem ref30_FindSet_eq (x) (y) (K) : fe_ref30_FindSet.X x y K = run ref30_FindSet_C [ref30_FindSet_o_l2] [] 4000 true [] (entry [.val tHouse, .val .str] [] x y) (retK Tryz.prog [.tmp 4] [] [.int .i64] K) := by kernel_rfl
theorem ok_ref30_FindSet : FeOk Tryz.prog fe_ref30_FindSet := fe_of_run (C := ref30_FindSet_C) hm ref30_FindSet_Γ (orc_cons ref30_FindSet_l2_ok orc_nil) (fn := Tryz.f98) Tryz.func98 rfl rfl (by kernel_rfl) ref30_FindSet_eq
/-! loftblock/loftblockref30.Valid -/
def ref30_Valid_s0 : List Slot := [.reg 2 .bool]
noncomputable def ref30_Valid_C : Ctx := ⟨Tryz.prog, bodyOf Tryz.f96, 67, [fe_ref01_IsName, fe_ref21_Valid, fe_ref30_FindSet, fe_ref19_Valid], ref30_Valid_s0⟩
theorem ref30_Valid_Γ : ∀ e ∈ ref30_Valid_C.Γ, FeOk ref30_Valid_C.P e := (ok_cons ok_ref01_IsName (ok_cons ok_ref21_Valid (ok_cons ok_ref30_FindSet (ok_cons ok_ref19_Valid ok_nil))))
def ref30_Valid_s1 : List Slot := []
def ref30_Valid_s2 : List Slot := [.ref 1 (.ptr 1 0), .reg 3 (.int .i64), .box true 1 25 tHouse]
def ref30_Valid_l3N (k0 : Prop) (kr : Bool → Prop) : Nat → Int → House → Prop
  | 0, _, _ => False
  | n + 1, i_3, h_1 => (if (decide (i_3 < (len h_1.2.2.1))) = true then ((0 ≤ i_3 ∧ i_3 < len h_1.2.2.1) ∧ (ref21_Valid (atSet_ h_1.2.2.1 i_3) (fun r2 => (if (!r2) = true then (kr false) else ((0 ≤ i_3 ∧ i_3 < len h_1.2.2.1) ∧ (if (decide ((atSet_ h_1.2.2.1 i_3).2.2.2.1 > h_1.2.1)) = true then (kr false) else ((0 ≤ i_3 ∧ i_3 < len h_1.2.2.1) ∧ (ref30_FindSet h_1 (atSet_ h_1.2.2.1 i_3).1 (fun r3 => (if (r3 != i_3) = true then (kr false) else (ref30_Valid_l3N k0 kr n (wI64 (i_3 + 1)) h_1))))))))))) else k0)
def ref30_Valid_l3 (i_3 : Int) (h_1 : House) (k0 : Prop) (kr : Bool → Prop) : Prop := ∃ n, ref30_Valid_l3N k0 kr n i_3 h_1
noncomputable def ref30_Valid_n_l3 (n : Nat) : Orc := ⟨[0, 0, 1, 0, 1, 1], ref30_Valid_s2, fun x Φ => ref30_Valid_l3N (Φ (.stop [1, 1, 1] (encS ref30_Valid_s1 ()))) (fun rt_2 => Φ (.ret (encS ref30_Valid_s0 (rt_2, ())))) n x.1 x.2.1⟩
noncomputable def ref30_Valid_o_l3 : Orc := ⟨[0, 0, 1, 0, 1, 1], ref30_Valid_s2, fun x Φ => ref30_Valid_l3 x.1 x.2.1 (Φ (.stop [1, 1, 1] (encS ref30_Valid_s1 ()))) (fun rt_2 => Φ (.ret (encS ref30_Valid_s0 (rt_2, ()))))⟩
theorem ref30_Valid_l3_eq (n : Nat) (x : sden ref30_Valid_s2) (Φ : Out → Prop) : (ref30_Valid_n_l3 (n + 1)).X x Φ = run ref30_Valid_C [ref30_Valid_n_l3 n] [([1, 1, 1], ref30_Valid_s1)] 4000 true [0, 0, 1, 0, 1, 1] (encS ref30_Valid_s2 x) Φ := by kernel_rfl
theorem ref30_Valid_l3_ok : OrcOk ref30_Valid_C ref30_Valid_o_l3 := orc_loop hm ref30_Valid_Γ (on := ref30_Valid_n_l3) orc_nil (fun x Φ h => h) ref30_Valid_l3_eq (fun x Φ ⟨n, h⟩ => ⟨n, x, h, rfl, rfl⟩)
def ref30_Valid_s3 : List Slot := [.ref 1 (.ptr 1 0), .reg 29 .bool, .box true 1 25 tHouse]
def ref30_Valid_j2 (t_29 : Bool) (h_1 : House) (kr : Bool → Prop) : Prop := (if t_29 = true then (kr false) else (ref30_Valid_l3 0 h_1 (kr true) kr))
noncomputable def ref30_Valid_o_j2 : Orc := ⟨[1, 0, 1], ref30_Valid_s3, fun x Φ => ref30_Valid_j2 x.1 x.2.1 (fun rt_2 => Φ (.ret (encS ref30_Valid_s0 (rt_2, ()))))⟩
theorem ref30_Valid_j2_eq (x : sden ref30_Valid_s3) (Φ : Out → Prop) : ref30_Valid_o_j2.X x Φ = run ref30_Valid_C [ref30_Valid_o_l3] [] 4000 true [1, 0, 1] (encS ref30_Valid_s3 x) Φ := by kernel_rfl
theorem ref30_Valid_j2_ok : OrcOk ref30_Valid_C ref30_Valid_o_j2 := orc_of_run hm ref30_Valid_Γ (orc_cons ref30_Valid_l3_ok orc_nil) ref30_Valid_j2_eq
def ref30_Valid (h_0 : House) (K : Bool → Prop) : Prop := (ref01_IsName h_0.1 (fun r1 => (if (!r1) = true then (ref30_Valid_j2 true h_0 (fun rt_2 => (K rt_2))) else (if (decide (h_0.2.1 < 1)) = true then (ref30_Valid_j2 true h_0 (fun rt_2 => (K rt_2))) else (if (decide (h_0.2.1 > 1048576)) = true then (ref30_Valid_j2 true h_0 (fun rt_2 => (K rt_2))) else (if (decide ((len h_0.2.2.1) > 60)) = true then (ref30_Valid_j2 true h_0 (fun rt_2 => (K rt_2))) else (ref19_Valid h_0.2.2.2 (fun r4 => (ref30_Valid_j2 (!r4) h_0 (fun rt_2 => (K rt_2)))))))))))
noncomputable def fe_ref30_Valid : Fe := ⟨96, [.val tHouse], [], [.bool], false, none, fun x y K => ref30_Valid x.1 (fun r => K r (()))⟩
theorem ref30_Valid_eq (x) (y) (K) : fe_ref30_Valid.X x y K = run ref30_Valid_C [ref30_Valid_o_j2] [] 4000 true [] (entry [.val tHouse] [] x y) (retK Tryz.prog [.tmp 2] [] [.bool] K) := by kernel_rfl
theorem ok_ref30_Valid : FeOk Tryz.prog fe_ref30_Valid := fe_of_run (C := ref30_Valid_C) hm ref30_Valid_Γ (orc_cons ref30_Valid_j2_ok orc_nil) (fn := Tryz.f96) Tryz.func96 rfl rfl (by kernel_rfl) ref30_Valid_eq
/-! loftblock/loftblockref34.within -/
def ref34_within_s0 : List Slot := [.reg 4 .bool]
noncomputable def ref34_within_C : Ctx := ⟨Tryz.prog, bodyOf Tryz.f165, 12, [], ref34_within_s0⟩
theorem ref34_within_Γ : ∀ e ∈ ref34_within_C.Γ, FeOk ref34_within_C.P e := ok_nil
def ref34_within (n_0 : Int) (most_1 : Int) (K : Bool → Prop) : Prop := (if (decide (n_0 ≥ 1)) = true then (K (decide (n_0 ≤ most_1))) else (K false))
noncomputable def fe_ref34_within : Fe := ⟨165, [.val (.int .i64), .val (.int .i64)], [], [.bool], false, none, fun x y K => ref34_within x.1 x.2.1 (fun r => K r (()))⟩
theorem ref34_within_eq (x) (y) (K) : fe_ref34_within.X x y K = run ref34_within_C [] [] 4000 true [] (entry [.val (.int .i64), .val (.int .i64)] [] x y) (retK Tryz.prog [.tmp 4] [] [.bool] K) := by kernel_rfl
theorem ok_ref34_within : FeOk Tryz.prog fe_ref34_within := fe_of_run (C := ref34_within_C) hm ref34_within_Γ orc_nil (fn := Tryz.f165) Tryz.func165 rfl rfl (by kernel_rfl) ref34_within_eq
/-! loftblock/loftblockref34.Valid -/
def ref34_Valid_s0 : List Slot := [.reg 2 .bool]
noncomputable def ref34_Valid_C : Ctx := ⟨Tryz.prog, bodyOf Tryz.f97, 30, [fe_ref01_IsName, fe_ref34_within], ref34_Valid_s0⟩
theorem ref34_Valid_Γ : ∀ e ∈ ref34_Valid_C.Γ, FeOk ref34_Valid_C.P e := (ok_cons ok_ref01_IsName (ok_cons ok_ref34_within ok_nil))
def ref34_Valid_s1 : List Slot := [.ref 1 (.ptr 1 0), .reg 16 .bool, .box true 1 27 tMove]
def ref34_Valid_j2 (t_16 : Bool) (m_1 : Move) (kr : Bool → Prop) : Prop := (if t_16 = true then (kr false) else (ref34_within m_1.2.2.1 8192 (fun r2 => (if r2 = true then (ref34_within m_1.2.2.2.1 16384 (fun r3 => (if r3 = true then (ref34_within m_1.2.2.2.2 16384 (fun r4 => (kr r4))) else (kr false)))) else (kr false)))))
noncomputable def ref34_Valid_o_j2 : Orc := ⟨[1, 0, 1], ref34_Valid_s1, fun x Φ => ref34_Valid_j2 x.1 x.2.1 (fun rt_2 => Φ (.ret (encS ref34_Valid_s0 (rt_2, ()))))⟩
theorem ref34_Valid_j2_eq (x : sden ref34_Valid_s1) (Φ : Out → Prop) : ref34_Valid_o_j2.X x Φ = run ref34_Valid_C [] [] 4000 true [1, 0, 1] (encS ref34_Valid_s1 x) Φ := by kernel_rfl
theorem ref34_Valid_j2_ok : OrcOk ref34_Valid_C ref34_Valid_o_j2 := orc_of_run hm ref34_Valid_Γ orc_nil ref34_Valid_j2_eq
def ref34_Valid (m_0 : Move) (K : Bool → Prop) : Prop := (ref01_IsName m_0.1 (fun r1 => (if (!r1) = true then (ref34_Valid_j2 true m_0 (fun rt_2 => (K rt_2))) else (if (decide (m_0.2.1 < (-1048576))) = true then (ref34_Valid_j2 true m_0 (fun rt_2 => (K rt_2))) else (ref34_Valid_j2 (decide (m_0.2.1 > 1048576)) m_0 (fun rt_2 => (K rt_2)))))))
noncomputable def fe_ref34_Valid : Fe := ⟨97, [.val tMove], [], [.bool], false, none, fun x y K => ref34_Valid x.1 (fun r => K r (()))⟩
theorem ref34_Valid_eq (x) (y) (K) : fe_ref34_Valid.X x y K = run ref34_Valid_C [ref34_Valid_o_j2] [] 4000 true [] (entry [.val tMove] [] x y) (retK Tryz.prog [.tmp 2] [] [.bool] K) := by kernel_rfl
theorem ok_ref34_Valid : FeOk Tryz.prog fe_ref34_Valid := fe_of_run (C := ref34_Valid_C) hm ref34_Valid_Γ (orc_cons ref34_Valid_j2_ok orc_nil) (fn := Tryz.f97) Tryz.func97 rfl rfl (by kernel_rfl) ref34_Valid_eq
/-! loftblock/loftblockref35.Named -/
def ref35_Named_s0 : List Slot := [.reg 4 (.int .i64), .reg 5 (.int .i64)]
noncomputable def ref35_Named_C : Ctx := ⟨Tryz.prog, bodyOf Tryz.f25, 22, [fe_ref30_Valid, fe_ref30_FindSet, fe_ref34_Valid], ref35_Named_s0⟩
theorem ref35_Named_Γ : ∀ e ∈ ref35_Named_C.Γ, FeOk ref35_Named_C.P e := (ok_cons ok_ref30_Valid (ok_cons ok_ref30_FindSet (ok_cons ok_ref34_Valid ok_nil)))
def ref35_Named_s1 : List Slot := [.ref 2 (.ptr 2 0), .ref 3 (.ptr 3 0), .reg 14 .bool, .box true 2 25 tHouse, .box true 3 27 tMove]
def ref35_Named_j2 (t_14 : Bool) (h_2 : House) (m_3 : Move) (kr : Int → Int → Prop) : Prop := (if t_14 = true then (kr 0 1) else (ref30_FindSet h_2 m_3.1 (fun r2 => (if (decide (r2 < 0)) = true then (kr 0 9) else (kr r2 0)))))
noncomputable def ref35_Named_o_j2 : Orc := ⟨[1, 0, 1], ref35_Named_s1, fun x Φ => ref35_Named_j2 x.1 x.2.1 x.2.2.1 (fun rt_4 rt_5 => Φ (.ret (encS ref35_Named_s0 (rt_4, rt_5, ()))))⟩
theorem ref35_Named_j2_eq (x : sden ref35_Named_s1) (Φ : Out → Prop) : ref35_Named_o_j2.X x Φ = run ref35_Named_C [] [] 4000 true [1, 0, 1] (encS ref35_Named_s1 x) Φ := by kernel_rfl
theorem ref35_Named_j2_ok : OrcOk ref35_Named_C ref35_Named_o_j2 := orc_of_run hm ref35_Named_Γ orc_nil ref35_Named_j2_eq
def ref35_Named (h_0 : House) (m_1 : Move) (K : Frac → Prop) : Prop := (ref30_Valid h_0 (fun r1 => (if (!r1) = true then (ref35_Named_j2 true h_0 m_1 (fun rt_4 rt_5 => (K (rt_4, rt_5)))) else (ref34_Valid m_1 (fun r3 => (ref35_Named_j2 (!r3) h_0 m_1 (fun rt_4 rt_5 => (K (rt_4, rt_5)))))))))
noncomputable def fe_ref35_Named : Fe := ⟨25, [.val tHouse, .val tMove], [], [.int .i64, .int .i64], false, none, fun x y K => ref35_Named x.1 x.2.1 (fun r => K r (()))⟩
theorem ref35_Named_eq (x) (y) (K) : fe_ref35_Named.X x y K = run ref35_Named_C [ref35_Named_o_j2] [] 4000 true [] (entry [.val tHouse, .val tMove] [] x y) (retK Tryz.prog [.tmp 4, .tmp 5] [] [.int .i64, .int .i64] K) := by kernel_rfl
theorem ok_ref35_Named : FeOk Tryz.prog fe_ref35_Named := fe_of_run (C := ref35_Named_C) hm ref35_Named_Γ (orc_cons ref35_Named_j2_ok orc_nil) (fn := Tryz.f25) Tryz.func25 rfl rfl (by kernel_rfl) ref35_Named_eq
/-! loftblock/loftblockref35.Reach -/
def ref35_Reach_s0 : List Slot := [.reg 4 .bool]
noncomputable def ref35_Reach_C : Ctx := ⟨Tryz.prog, bodyOf Tryz.f26, 15, [], ref35_Reach_s0⟩
theorem ref35_Reach_Γ : ∀ e ∈ ref35_Reach_C.Γ, FeOk ref35_Reach_C.P e := ok_nil
def ref35_Reach (s_0 : Set_) (z_1 : Int) (K : Bool → Prop) : Prop := (if (decide (z_1 ≥ s_0.2.2.1)) = true then (K (decide (z_1 ≤ s_0.2.2.2.1))) else (K false))
noncomputable def fe_ref35_Reach : Fe := ⟨26, [.val tSet_, .val (.int .i64)], [], [.bool], false, none, fun x y K => ref35_Reach x.1 x.2.1 (fun r => K r (()))⟩
theorem ref35_Reach_eq (x) (y) (K) : fe_ref35_Reach.X x y K = run ref35_Reach_C [] [] 4000 true [] (entry [.val tSet_, .val (.int .i64)] [] x y) (retK Tryz.prog [.tmp 4] [] [.bool] K) := by kernel_rfl
theorem ok_ref35_Reach : FeOk Tryz.prog fe_ref35_Reach := fe_of_run (C := ref35_Reach_C) hm ref35_Reach_Γ orc_nil (fn := Tryz.f26) Tryz.func26 rfl rfl (by kernel_rfl) ref35_Reach_eq
/-! loftblock/loftblockref35.Given -/
def ref35_Given_s0 : List Slot := [.reg 6 (.int .i64)]
noncomputable def ref35_Given_C : Ctx := ⟨Tryz.prog, bodyOf Tryz.f18, 37, [fe_ref35_Named, fe_ref35_Reach], ref35_Given_s0⟩
theorem ref35_Given_Γ : ∀ e ∈ ref35_Given_C.Γ, FeOk ref35_Given_C.P e := (ok_cons ok_ref35_Named (ok_cons ok_ref35_Reach ok_nil))
def ref35_Given (h_0 : House) (from_1 : Int) (m_2 : Move) (K : Int → Prop) : Prop := (ref35_Named h_0 m_2 (fun r1 => (if (r1.2 != 0) = true then (K r1.2) else ((0 ≤ r1.1 ∧ r1.1 < len h_0.2.2.1) ∧ (ref35_Reach (atSet_ h_0.2.2.1 r1.1) from_1 (fun r2 => (if (!r2) = true then (K 2) else ((0 ≤ r1.1 ∧ r1.1 < len h_0.2.2.1) ∧ (ref35_Reach (atSet_ h_0.2.2.1 r1.1) m_2.2.1 (fun r3 => (if (!r3) = true then (K 2) else (K 0))))))))))))
noncomputable def fe_ref35_Given : Fe := ⟨18, [.val tHouse, .val (.int .i64), .val tMove], [], [.int .i64], false, none, fun x y K => ref35_Given x.1 x.2.1 x.2.2.1 (fun r => K r (()))⟩
theorem ref35_Given_eq (x) (y) (K) : fe_ref35_Given.X x y K = run ref35_Given_C [] [] 4000 true [] (entry [.val tHouse, .val (.int .i64), .val tMove] [] x y) (retK Tryz.prog [.tmp 6] [] [.int .i64] K) := by kernel_rfl
theorem ok_ref35_Given : FeOk Tryz.prog fe_ref35_Given := fe_of_run (C := ref35_Given_C) hm ref35_Given_Γ orc_nil (fn := Tryz.f18) Tryz.func18 rfl rfl (by kernel_rfl) ref35_Given_eq
/-! loftblock/loftblockref02.Size -/
def ref02_Size_s0 : List Slot := [.reg 2 (.int .u64)]
noncomputable def ref02_Size_C : Ctx := ⟨Tryz.prog, bodyOf Tryz.f81, 10, [], ref02_Size_s0⟩
theorem ref02_Size_Γ : ∀ e ∈ ref02_Size_C.Γ, FeOk ref02_Size_C.P e := ok_nil
def ref02_Size (n_0 : Int) (K : Int → Prop) : Prop := (if (decide (n_0 < 0)) = true then (K (wU64 (0 - (wU64 (n_0))))) else (K (wU64 (n_0))))
noncomputable def fe_ref02_Size : Fe := ⟨81, [.val (.int .i64)], [], [.int .u64], false, none, fun x y K => ref02_Size x.1 (fun r => K r (()))⟩
theorem ref02_Size_eq (x) (y) (K) : fe_ref02_Size.X x y K = run ref02_Size_C [] [] 4000 true [] (entry [.val (.int .i64)] [] x y) (retK Tryz.prog [.tmp 2] [] [.int .u64] K) := by kernel_rfl
theorem ok_ref02_Size : FeOk Tryz.prog fe_ref02_Size := fe_of_run (C := ref02_Size_C) hm ref02_Size_Γ orc_nil (fn := Tryz.f81) Tryz.func81 rfl rfl (by kernel_rfl) ref02_Size_eq
/-! loftblock/loftblockref02.Half -/
def ref02_Half_s0 : List Slot := [.ref 2 (.ptr 2 0), .box true 2 138 tU]
noncomputable def ref02_Half_C : Ctx := ⟨Tryz.prog, bodyOf Tryz.f150, 14, [], ref02_Half_s0⟩
theorem ref02_Half_Γ : ∀ e ∈ ref02_Half_C.Γ, FeOk ref02_Half_C.P e := ok_nil
def ref02_Half (a_0 : U) (K : U → Prop) : Prop := (K ((Int.fdiv a_0.1 (2 ^ 1)), (wU64 ((Int.fdiv a_0.2 (2 ^ 1)) + (wU64 (a_0.1 * 2 ^ 63))))))
noncomputable def fe_ref02_Half : Fe := ⟨150, [.val tU], [], [tU], false, none, fun x y K => ref02_Half x.1 (fun r => K r (()))⟩
theorem ref02_Half_eq (x) (y) (K) : fe_ref02_Half.X x y K = run ref02_Half_C [] [] 4000 true [] (entry [.val tU] [] x y) (retK Tryz.prog [.cell 2 138] [] [tU] K) := by kernel_rfl
theorem ok_ref02_Half : FeOk Tryz.prog fe_ref02_Half := fe_of_run (C := ref02_Half_C) hm ref02_Half_Γ orc_nil (fn := Tryz.f150) Tryz.func150 rfl rfl (by kernel_rfl) ref02_Half_eq
/-! loftblock/loftblockref02.Less -/
def ref02_Less_s0 : List Slot := [.reg 4 .bool]
noncomputable def ref02_Less_C : Ctx := ⟨Tryz.prog, bodyOf Tryz.f129, 24, [], ref02_Less_s0⟩
theorem ref02_Less_Γ : ∀ e ∈ ref02_Less_C.Γ, FeOk ref02_Less_C.P e := ok_nil
def ref02_Less (a_0 : U) (b_1 : U) (K : Bool → Prop) : Prop := (if (decide (a_0.1 < b_1.1)) = true then (K true) else (if (a_0.1 == b_1.1) = true then (K (decide (a_0.2 < b_1.2))) else (K false)))
noncomputable def fe_ref02_Less : Fe := ⟨129, [.val tU, .val tU], [], [.bool], false, none, fun x y K => ref02_Less x.1 x.2.1 (fun r => K r (()))⟩
theorem ref02_Less_eq (x) (y) (K) : fe_ref02_Less.X x y K = run ref02_Less_C [] [] 4000 true [] (entry [.val tU, .val tU] [] x y) (retK Tryz.prog [.tmp 4] [] [.bool] K) := by kernel_rfl
theorem ok_ref02_Less : FeOk Tryz.prog fe_ref02_Less := fe_of_run (C := ref02_Less_C) hm ref02_Less_Γ orc_nil (fn := Tryz.f129) Tryz.func129 rfl rfl (by kernel_rfl) ref02_Less_eq
/-! loftblock/loftblockref02.Minus -/
def ref02_Minus_s0 : List Slot := [.ref 4 (.ptr 4 0), .box true 4 138 tU]
noncomputable def ref02_Minus_C : Ctx := ⟨Tryz.prog, bodyOf Tryz.f151, 25, [], ref02_Minus_s0⟩
theorem ref02_Minus_Γ : ∀ e ∈ ref02_Minus_C.Γ, FeOk ref02_Minus_C.P e := ok_nil
def ref02_Minus (a_0 : U) (b_1 : U) (K : U → Prop) : Prop := (if (decide (a_0.2 < b_1.2)) = true then (K ((wU64 ((wU64 (a_0.1 - b_1.1)) - 1)), (wU64 (a_0.2 - b_1.2)))) else (K ((wU64 (a_0.1 - b_1.1)), (wU64 (a_0.2 - b_1.2)))))
noncomputable def fe_ref02_Minus : Fe := ⟨151, [.val tU, .val tU], [], [tU], false, none, fun x y K => ref02_Minus x.1 x.2.1 (fun r => K r (()))⟩
theorem ref02_Minus_eq (x) (y) (K) : fe_ref02_Minus.X x y K = run ref02_Minus_C [] [] 4000 true [] (entry [.val tU, .val tU] [] x y) (retK Tryz.prog [.cell 4 138] [] [tU] K) := by kernel_rfl
theorem ok_ref02_Minus : FeOk Tryz.prog fe_ref02_Minus := fe_of_run (C := ref02_Minus_C) hm ref02_Minus_Γ orc_nil (fn := Tryz.f151) Tryz.func151 rfl rfl (by kernel_rfl) ref02_Minus_eq
/-! loftblock/loftblockref02.Plus -/
def ref02_Plus_s0 : List Slot := [.ref 4 (.ptr 4 0), .box true 4 138 tU]
noncomputable def ref02_Plus_C : Ctx := ⟨Tryz.prog, bodyOf Tryz.f152, 26, [], ref02_Plus_s0⟩
theorem ref02_Plus_Γ : ∀ e ∈ ref02_Plus_C.Γ, FeOk ref02_Plus_C.P e := ok_nil
def ref02_Plus (a_0 : U) (b_1 : U) (K : U → Prop) : Prop := (if (decide ((wU64 (a_0.2 + b_1.2)) < a_0.2)) = true then (K ((wU64 ((wU64 (a_0.1 + b_1.1)) + 1)), (wU64 (a_0.2 + b_1.2)))) else (K ((wU64 (a_0.1 + b_1.1)), (wU64 (a_0.2 + b_1.2)))))
noncomputable def fe_ref02_Plus : Fe := ⟨152, [.val tU, .val tU], [], [tU], false, none, fun x y K => ref02_Plus x.1 x.2.1 (fun r => K r (()))⟩
theorem ref02_Plus_eq (x) (y) (K) : fe_ref02_Plus.X x y K = run ref02_Plus_C [] [] 4000 true [] (entry [.val tU, .val tU] [] x y) (retK Tryz.prog [.cell 4 138] [] [tU] K) := by kernel_rfl
theorem ok_ref02_Plus : FeOk Tryz.prog fe_ref02_Plus := fe_of_run (C := ref02_Plus_C) hm ref02_Plus_Γ orc_nil (fn := Tryz.f152) Tryz.func152 rfl rfl (by kernel_rfl) ref02_Plus_eq
/-! loftblock/loftblockref02.Gcd -/
def ref02_Gcd_s0 : List Slot := [.ref 4 (.ptr 4 0), .box true 4 138 tU]
noncomputable def ref02_Gcd_C : Ctx := ⟨Tryz.prog, bodyOf Tryz.f80, 57, [fe_ref02_Half, fe_ref02_Less, fe_ref02_Minus, fe_ref02_Plus], ref02_Gcd_s0⟩
theorem ref02_Gcd_Γ : ∀ e ∈ ref02_Gcd_C.Γ, FeOk ref02_Gcd_C.P e := (ok_cons ok_ref02_Half (ok_cons ok_ref02_Less (ok_cons ok_ref02_Minus (ok_cons ok_ref02_Plus ok_nil))))
def ref02_Gcd_s1 : List Slot := [.ref 2 (.ptr 2 0), .ref 3 (.ptr 3 0), .ref 4 (.ptr 4 0), .reg 5 (.int .i64), .box true 2 138 tU, .box true 3 138 tU, .box true 4 138 tU]
def ref02_Gcd_l2N (k0 : Int → U → U → U → Prop) : Nat → Int → U → U → U → Prop
  | 0, _, _, _, _ => False
  | n + 1, twos_5, a_2, b_3, b_4 => (if ((bAnd .u64 a_2.2 1) == 0) = true then (if ((bAnd .u64 b_3.2 1) == 0) = true then (ref02_Half a_2 (fun r1 => (ref02_Half b_3 (fun r2 => (ref02_Gcd_l2N k0 n (wI64 (twos_5 + 1)) r1 r2 b_4))))) else (k0 twos_5 a_2 b_3 b_4)) else (k0 twos_5 a_2 b_3 b_4))
def ref02_Gcd_l2 (twos_5 : Int) (a_2 : U) (b_3 : U) (b_4 : U) (k0 : Int → U → U → U → Prop) : Prop := ∃ n, ref02_Gcd_l2N k0 n twos_5 a_2 b_3 b_4
noncomputable def ref02_Gcd_n_l2 (n : Nat) : Orc := ⟨[0, 0, 0, 1, 1, 1], ref02_Gcd_s1, fun x Φ => ref02_Gcd_l2N (fun twos_5 a_2 b_3 b_4 => Φ (.stop [1, 1, 1, 1] (encS ref02_Gcd_s1 (twos_5, a_2, b_3, b_4, ())))) n x.1 x.2.1 x.2.2.1 x.2.2.2.1⟩
noncomputable def ref02_Gcd_o_l2 : Orc := ⟨[0, 0, 0, 1, 1, 1], ref02_Gcd_s1, fun x Φ => ref02_Gcd_l2 x.1 x.2.1 x.2.2.1 x.2.2.2.1 (fun twos_5 a_2 b_3 b_4 => Φ (.stop [1, 1, 1, 1] (encS ref02_Gcd_s1 (twos_5, a_2, b_3, b_4, ()))))⟩
theorem ref02_Gcd_l2_eq (n : Nat) (x : sden ref02_Gcd_s1) (Φ : Out → Prop) : (ref02_Gcd_n_l2 (n + 1)).X x Φ = run ref02_Gcd_C [ref02_Gcd_n_l2 n] [([1, 1, 1, 1], ref02_Gcd_s1)] 4000 true [0, 0, 0, 1, 1, 1] (encS ref02_Gcd_s1 x) Φ := by kernel_rfl
theorem ref02_Gcd_l2_ok : OrcOk ref02_Gcd_C ref02_Gcd_o_l2 := orc_loop hm ref02_Gcd_Γ (on := ref02_Gcd_n_l2) orc_nil (fun x Φ h => h) ref02_Gcd_l2_eq (fun x Φ ⟨n, h⟩ => ⟨n, x, h, rfl, rfl⟩)
def ref02_Gcd_l4N (k0 : Int → U → U → U → Prop) : Nat → Int → U → U → U → Prop
  | 0, _, _, _, _ => False
  | n + 1, twos_5, a_2, b_3, b_4 => (if ((bAnd .u64 a_2.2 1) == 0) = true then (ref02_Half a_2 (fun r3 => (ref02_Gcd_l4N k0 n twos_5 r3 b_3 b_4))) else (k0 twos_5 a_2 b_3 b_4))
def ref02_Gcd_l4 (twos_5 : Int) (a_2 : U) (b_3 : U) (b_4 : U) (k0 : Int → U → U → U → Prop) : Prop := ∃ n, ref02_Gcd_l4N k0 n twos_5 a_2 b_3 b_4
noncomputable def ref02_Gcd_n_l4 (n : Nat) : Orc := ⟨[0, 0, 0, 0, 1, 0, 0, 0, 1, 1, 1, 1], ref02_Gcd_s1, fun x Φ => ref02_Gcd_l4N (fun twos_5 a_2 b_3 b_4 => Φ (.stop [1, 0, 1, 0, 0, 0, 1, 1, 1, 1] (encS ref02_Gcd_s1 (twos_5, a_2, b_3, b_4, ())))) n x.1 x.2.1 x.2.2.1 x.2.2.2.1⟩
noncomputable def ref02_Gcd_o_l4 : Orc := ⟨[0, 0, 0, 0, 1, 0, 0, 0, 1, 1, 1, 1], ref02_Gcd_s1, fun x Φ => ref02_Gcd_l4 x.1 x.2.1 x.2.2.1 x.2.2.2.1 (fun twos_5 a_2 b_3 b_4 => Φ (.stop [1, 0, 1, 0, 0, 0, 1, 1, 1, 1] (encS ref02_Gcd_s1 (twos_5, a_2, b_3, b_4, ()))))⟩
theorem ref02_Gcd_l4_eq (n : Nat) (x : sden ref02_Gcd_s1) (Φ : Out → Prop) : (ref02_Gcd_n_l4 (n + 1)).X x Φ = run ref02_Gcd_C [ref02_Gcd_n_l4 n] [([1, 0, 1, 0, 0, 0, 1, 1, 1, 1], ref02_Gcd_s1)] 4000 true [0, 0, 0, 0, 1, 0, 0, 0, 1, 1, 1, 1] (encS ref02_Gcd_s1 x) Φ := by kernel_rfl
theorem ref02_Gcd_l4_ok : OrcOk ref02_Gcd_C ref02_Gcd_o_l4 := orc_loop hm ref02_Gcd_Γ (on := ref02_Gcd_n_l4) orc_nil (fun x Φ h => h) ref02_Gcd_l4_eq (fun x Φ ⟨n, h⟩ => ⟨n, x, h, rfl, rfl⟩)
def ref02_Gcd_l5N (k0 : Int → U → U → U → Prop) : Nat → Int → U → U → U → Prop
  | 0, _, _, _, _ => False
  | n + 1, twos_5, a_2, b_3, b_4 => (if ((bAnd .u64 b_3.2 1) == 0) = true then (ref02_Half b_3 (fun r4 => (ref02_Gcd_l5N k0 n twos_5 a_2 r4 b_4))) else (k0 twos_5 a_2 b_3 b_4))
def ref02_Gcd_l5 (twos_5 : Int) (a_2 : U) (b_3 : U) (b_4 : U) (k0 : Int → U → U → U → Prop) : Prop := ∃ n, ref02_Gcd_l5N k0 n twos_5 a_2 b_3 b_4
noncomputable def ref02_Gcd_n_l5 (n : Nat) : Orc := ⟨[0, 0, 0, 1, 0, 1, 0, 0, 0, 1, 1, 1, 1], ref02_Gcd_s1, fun x Φ => ref02_Gcd_l5N (fun twos_5 a_2 b_3 b_4 => Φ (.stop [1, 1, 0, 1, 0, 0, 0, 1, 1, 1, 1] (encS ref02_Gcd_s1 (twos_5, a_2, b_3, b_4, ())))) n x.1 x.2.1 x.2.2.1 x.2.2.2.1⟩
noncomputable def ref02_Gcd_o_l5 : Orc := ⟨[0, 0, 0, 1, 0, 1, 0, 0, 0, 1, 1, 1, 1], ref02_Gcd_s1, fun x Φ => ref02_Gcd_l5 x.1 x.2.1 x.2.2.1 x.2.2.2.1 (fun twos_5 a_2 b_3 b_4 => Φ (.stop [1, 1, 0, 1, 0, 0, 0, 1, 1, 1, 1] (encS ref02_Gcd_s1 (twos_5, a_2, b_3, b_4, ()))))⟩
theorem ref02_Gcd_l5_eq (n : Nat) (x : sden ref02_Gcd_s1) (Φ : Out → Prop) : (ref02_Gcd_n_l5 (n + 1)).X x Φ = run ref02_Gcd_C [ref02_Gcd_n_l5 n] [([1, 1, 0, 1, 0, 0, 0, 1, 1, 1, 1], ref02_Gcd_s1)] 4000 true [0, 0, 0, 1, 0, 1, 0, 0, 0, 1, 1, 1, 1] (encS ref02_Gcd_s1 x) Φ := by kernel_rfl
theorem ref02_Gcd_l5_ok : OrcOk ref02_Gcd_C ref02_Gcd_o_l5 := orc_loop hm ref02_Gcd_Γ (on := ref02_Gcd_n_l5) orc_nil (fun x Φ h => h) ref02_Gcd_l5_eq (fun x Φ ⟨n, h⟩ => ⟨n, x, h, rfl, rfl⟩)
def ref02_Gcd_s2 : List Slot := [.ref 3 (.ptr 3 0), .ref 4 (.ptr 4 0), .reg 5 (.int .i64), .box true 3 138 tU, .box true 4 138 tU]
def ref02_Gcd_l3N (k0 : Int → U → U → Prop) : Nat → Int → U → U → U → Prop
  | 0, _, _, _, _ => False
  | n + 1, twos_5, a_2, b_3, b_4 => (if (!((a_2.1 == 0) && (a_2.2 == 0))) = true then (ref02_Gcd_l4 twos_5 a_2 b_3 b_4 (fun twos_5 a_2 b_3 b_4 => (ref02_Gcd_l5 twos_5 a_2 b_3 b_4 (fun twos_5 a_2 b_3 b_4 => (ref02_Less a_2 b_3 (fun r5 => (if r5 = true then (ref02_Minus b_3 a_2 (fun r6 => (ref02_Gcd_l3N k0 n twos_5 r6 a_2 b_4))) else (ref02_Minus a_2 b_3 (fun r7 => (ref02_Gcd_l3N k0 n twos_5 r7 b_3 b_4)))))))))) else (k0 twos_5 b_3 b_4))
def ref02_Gcd_l3 (twos_5 : Int) (a_2 : U) (b_3 : U) (b_4 : U) (k0 : Int → U → U → Prop) : Prop := ∃ n, ref02_Gcd_l3N k0 n twos_5 a_2 b_3 b_4
noncomputable def ref02_Gcd_n_l3 (n : Nat) : Orc := ⟨[0, 0, 0, 1, 1, 1, 1], ref02_Gcd_s1, fun x Φ => ref02_Gcd_l3N (fun twos_5 b_3 b_4 => Φ (.stop [1, 1, 1, 1, 1] (encS ref02_Gcd_s2 (twos_5, b_3, b_4, ())))) n x.1 x.2.1 x.2.2.1 x.2.2.2.1⟩
noncomputable def ref02_Gcd_o_l3 : Orc := ⟨[0, 0, 0, 1, 1, 1, 1], ref02_Gcd_s1, fun x Φ => ref02_Gcd_l3 x.1 x.2.1 x.2.2.1 x.2.2.2.1 (fun twos_5 b_3 b_4 => Φ (.stop [1, 1, 1, 1, 1] (encS ref02_Gcd_s2 (twos_5, b_3, b_4, ()))))⟩
theorem ref02_Gcd_l3_eq (n : Nat) (x : sden ref02_Gcd_s1) (Φ : Out → Prop) : (ref02_Gcd_n_l3 (n + 1)).X x Φ = run ref02_Gcd_C [ref02_Gcd_n_l3 n, ref02_Gcd_o_l4, ref02_Gcd_o_l5] [([1, 1, 1, 1, 1], ref02_Gcd_s2)] 4000 true [0, 0, 0, 1, 1, 1, 1] (encS ref02_Gcd_s1 x) Φ := by kernel_rfl
theorem ref02_Gcd_l3_ok : OrcOk ref02_Gcd_C ref02_Gcd_o_l3 := orc_loop hm ref02_Gcd_Γ (on := ref02_Gcd_n_l3) (orc_cons ref02_Gcd_l4_ok (orc_cons ref02_Gcd_l5_ok orc_nil)) (fun x Φ h => h) ref02_Gcd_l3_eq (fun x Φ ⟨n, h⟩ => ⟨n, x, h, rfl, rfl⟩)
def ref02_Gcd_s3 : List Slot := [.ref 3 (.ptr 3 0), .ref 4 (.ptr 4 0), .box true 3 138 tU, .box true 4 138 tU]
def ref02_Gcd_l6N (k0 : U → U → Prop) : Nat → Int → U → U → Prop
  | 0, _, _, _ => False
  | n + 1, twos_5, b_3, b_4 => (if (decide (twos_5 > 0)) = true then (ref02_Plus b_3 b_3 (fun r8 => (ref02_Gcd_l6N k0 n (wI64 (twos_5 - 1)) r8 b_4))) else (k0 b_3 b_4))
def ref02_Gcd_l6 (twos_5 : Int) (b_3 : U) (b_4 : U) (k0 : U → U → Prop) : Prop := ∃ n, ref02_Gcd_l6N k0 n twos_5 b_3 b_4
noncomputable def ref02_Gcd_n_l6 (n : Nat) : Orc := ⟨[0, 0, 0, 1, 1, 1, 1, 1], ref02_Gcd_s2, fun x Φ => ref02_Gcd_l6N (fun b_3 b_4 => Φ (.stop [1, 1, 1, 1, 1, 1] (encS ref02_Gcd_s3 (b_3, b_4, ())))) n x.1 x.2.1 x.2.2.1⟩
noncomputable def ref02_Gcd_o_l6 : Orc := ⟨[0, 0, 0, 1, 1, 1, 1, 1], ref02_Gcd_s2, fun x Φ => ref02_Gcd_l6 x.1 x.2.1 x.2.2.1 (fun b_3 b_4 => Φ (.stop [1, 1, 1, 1, 1, 1] (encS ref02_Gcd_s3 (b_3, b_4, ()))))⟩
theorem ref02_Gcd_l6_eq (n : Nat) (x : sden ref02_Gcd_s2) (Φ : Out → Prop) : (ref02_Gcd_n_l6 (n + 1)).X x Φ = run ref02_Gcd_C [ref02_Gcd_n_l6 n] [([1, 1, 1, 1, 1, 1], ref02_Gcd_s3)] 4000 true [0, 0, 0, 1, 1, 1, 1, 1] (encS ref02_Gcd_s2 x) Φ := by kernel_rfl
theorem ref02_Gcd_l6_ok : OrcOk ref02_Gcd_C ref02_Gcd_o_l6 := orc_loop hm ref02_Gcd_Γ (on := ref02_Gcd_n_l6) orc_nil (fun x Φ h => h) ref02_Gcd_l6_eq (fun x Φ ⟨n, h⟩ => ⟨n, x, h, rfl, rfl⟩)
def ref02_Gcd (a_0 : U) (b_1 : U) (K : U → Prop) : Prop := (if ((a_0.1 == 0) && (a_0.2 == 0)) = true then (K b_1) else (ref02_Gcd_l2 0 a_0 b_1 (0, 0) (fun twos_5 a_2 b_3 b_4 => (ref02_Gcd_l3 twos_5 a_2 b_3 b_4 (fun twos_5 b_3 b_4 => (ref02_Gcd_l6 twos_5 b_3 b_4 (fun b_3 b_4 => (K b_3))))))))
noncomputable def fe_ref02_Gcd : Fe := ⟨80, [.val tU, .val tU], [], [tU], false, none, fun x y K => ref02_Gcd x.1 x.2.1 (fun r => K r (()))⟩
theorem ref02_Gcd_eq (x) (y) (K) : fe_ref02_Gcd.X x y K = run ref02_Gcd_C [ref02_Gcd_o_l2, ref02_Gcd_o_l3, ref02_Gcd_o_l6] [] 4000 true [] (entry [.val tU, .val tU] [] x y) (retK Tryz.prog [.cell 4 138] [] [tU] K) := by kernel_rfl
theorem ok_ref02_Gcd : FeOk Tryz.prog fe_ref02_Gcd := fe_of_run (C := ref02_Gcd_C) hm ref02_Gcd_Γ (orc_cons ref02_Gcd_l2_ok (orc_cons ref02_Gcd_l3_ok (orc_cons ref02_Gcd_l6_ok orc_nil))) (fn := Tryz.f80) Tryz.func80 rfl rfl (by kernel_rfl) ref02_Gcd_eq
/-! loftblock/loftblockref02.Valid -/
def ref02_Valid_s0 : List Slot := [.reg 2 .bool]
noncomputable def ref02_Valid_C : Ctx := ⟨Tryz.prog, bodyOf Tryz.f19, 32, [fe_ref02_Size, fe_ref02_Gcd], ref02_Valid_s0⟩
theorem ref02_Valid_Γ : ∀ e ∈ ref02_Valid_C.Γ, FeOk ref02_Valid_C.P e := (ok_cons ok_ref02_Size (ok_cons ok_ref02_Gcd ok_nil))
def ref02_Valid_s1 : List Slot := [.ref 1 (.ptr 1 0), .reg 20 .bool, .box true 1 29 tFrac]
def ref02_Valid_j2 (t_20 : Bool) (a_1 : Frac) (kr : Bool → Prop) : Prop := (if t_20 = true then (kr false) else (ref02_Size a_1.1 (fun r1 => (ref02_Size a_1.2 (fun r2 => (ref02_Gcd (0, r1) (0, r2) (fun r3 => (kr ((r3.1 == 0) && (r3.2 == 1))))))))))
noncomputable def ref02_Valid_o_j2 : Orc := ⟨[1, 0, 1], ref02_Valid_s1, fun x Φ => ref02_Valid_j2 x.1 x.2.1 (fun rt_2 => Φ (.ret (encS ref02_Valid_s0 (rt_2, ()))))⟩
theorem ref02_Valid_j2_eq (x : sden ref02_Valid_s1) (Φ : Out → Prop) : ref02_Valid_o_j2.X x Φ = run ref02_Valid_C [] [] 4000 true [1, 0, 1] (encS ref02_Valid_s1 x) Φ := by kernel_rfl
theorem ref02_Valid_j2_ok : OrcOk ref02_Valid_C ref02_Valid_o_j2 := orc_of_run hm ref02_Valid_Γ orc_nil ref02_Valid_j2_eq
def ref02_Valid (a_0 : Frac) (K : Bool → Prop) : Prop := (if (decide (a_0.2 < 1)) = true then (ref02_Valid_j2 true a_0 (fun rt_2 => (K rt_2))) else (if (decide (a_0.2 > 1152921504606846976)) = true then (ref02_Valid_j2 true a_0 (fun rt_2 => (K rt_2))) else (if (decide (a_0.1 < (-1152921504606846976))) = true then (ref02_Valid_j2 true a_0 (fun rt_2 => (K rt_2))) else (ref02_Valid_j2 (decide (a_0.1 > 1152921504606846976)) a_0 (fun rt_2 => (K rt_2))))))
noncomputable def fe_ref02_Valid : Fe := ⟨19, [.val tFrac], [], [.bool], false, none, fun x y K => ref02_Valid x.1 (fun r => K r (()))⟩
theorem ref02_Valid_eq (x) (y) (K) : fe_ref02_Valid.X x y K = run ref02_Valid_C [ref02_Valid_o_j2] [] 4000 true [] (entry [.val tFrac] [] x y) (retK Tryz.prog [.tmp 2] [] [.bool] K) := by kernel_rfl
theorem ok_ref02_Valid : FeOk Tryz.prog fe_ref02_Valid := fe_of_run (C := ref02_Valid_C) hm ref02_Valid_Γ (orc_cons ref02_Valid_j2_ok orc_nil) (fn := Tryz.f19) Tryz.func19 rfl rfl (by kernel_rfl) ref02_Valid_eq
/-! loftblock/loftblockref35.Distance -/
def ref35_Distance_s0 : List Slot := [.reg 4 (.int .i64)]
noncomputable def ref35_Distance_C : Ctx := ⟨Tryz.prog, bodyOf Tryz.f30, 12, [], ref35_Distance_s0⟩
theorem ref35_Distance_Γ : ∀ e ∈ ref35_Distance_C.Γ, FeOk ref35_Distance_C.P e := ok_nil
def ref35_Distance (a_0 : Int) (b_1 : Int) (K : Int → Prop) : Prop := (K (iMax (wI64 (a_0 - b_1)) (wI64 (b_1 - a_0))))
noncomputable def fe_ref35_Distance : Fe := ⟨30, [.val (.int .i64), .val (.int .i64)], [], [.int .i64], false, none, fun x y K => ref35_Distance x.1 x.2.1 (fun r => K r (()))⟩
theorem ref35_Distance_eq (x) (y) (K) : fe_ref35_Distance.X x y K = run ref35_Distance_C [] [] 4000 true [] (entry [.val (.int .i64), .val (.int .i64)] [] x y) (retK Tryz.prog [.tmp 4] [] [.int .i64] K) := by kernel_rfl
theorem ok_ref35_Distance : FeOk Tryz.prog fe_ref35_Distance := fe_of_run (C := ref35_Distance_C) hm ref35_Distance_Γ orc_nil (fn := Tryz.f30) Tryz.func30 rfl rfl (by kernel_rfl) ref35_Distance_eq
/-! loftblock/loftblockref02.Of -/
def ref02_Of_s0 : List Slot := [.ref 2 (.ptr 2 0), .box true 2 29 tFrac]
noncomputable def ref02_Of_C : Ctx := ⟨Tryz.prog, bodyOf Tryz.f40, 5, [], ref02_Of_s0⟩
theorem ref02_Of_Γ : ∀ e ∈ ref02_Of_C.Γ, FeOk ref02_Of_C.P e := ok_nil
def ref02_Of (n_0 : Int) (K : Frac → Prop) : Prop := (K (n_0, 1))
noncomputable def fe_ref02_Of : Fe := ⟨40, [.val (.int .i64)], [], [tFrac], false, none, fun x y K => ref02_Of x.1 (fun r => K r (()))⟩
theorem ref02_Of_eq (x) (y) (K) : fe_ref02_Of.X x y K = run ref02_Of_C [] [] 4000 true [] (entry [.val (.int .i64)] [] x y) (retK Tryz.prog [.cell 2 29] [] [tFrac] K) := by kernel_rfl
theorem ok_ref02_Of : FeOk Tryz.prog fe_ref02_Of := fe_of_run (C := ref02_Of_C) hm ref02_Of_Γ orc_nil (fn := Tryz.f40) Tryz.func40 rfl rfl (by kernel_rfl) ref02_Of_eq
/-! loftblock/loftblockref34.room -/
def ref34_room_s0 : List Slot := [.reg 6 .bool]
noncomputable def ref34_room_C : Ctx := ⟨Tryz.prog, bodyOf Tryz.f166, 25, [], ref34_room_s0⟩
theorem ref34_room_Γ : ∀ e ∈ ref34_room_C.Γ, FeOk ref34_room_C.P e := ok_nil
def ref34_room (d_0 : Int) (m_1 : Move) (w_2 : Int) (K : Bool → Prop) : Prop := (K (decide ((wI64 ((wI64 (w_2 * w_2)) * (wI64 (m_1.2.2.2.1 + m_1.2.2.2.2)))) ≤ (wI64 ((wI64 ((wI64 (2 * m_1.2.2.2.1)) * m_1.2.2.2.2)) * d_0)))))
noncomputable def fe_ref34_room : Fe := ⟨166, [.val (.int .i64), .val tMove, .val (.int .i64)], [], [.bool], false, none, fun x y K => ref34_room x.1 x.2.1 x.2.2.1 (fun r => K r (()))⟩
theorem ref34_room_eq (x) (y) (K) : fe_ref34_room.X x y K = run ref34_room_C [] [] 4000 true [] (entry [.val (.int .i64), .val tMove, .val (.int .i64)] [] x y) (retK Tryz.prog [.tmp 6] [] [.bool] K) := by kernel_rfl
theorem ok_ref34_room : FeOk Tryz.prog fe_ref34_room := fe_of_run (C := ref34_room_C) hm ref34_room_Γ orc_nil (fn := Tryz.f166) Tryz.func166 rfl rfl (by kernel_rfl) ref34_room_eq
/-! loftblock/loftblockref34.Top -/
def ref34_Top_s0 : List Slot := [.reg 4 (.int .i64)]
noncomputable def ref34_Top_C : Ctx := ⟨Tryz.prog, bodyOf Tryz.f101, 29, [fe_ref34_room], ref34_Top_s0⟩
theorem ref34_Top_Γ : ∀ e ∈ ref34_Top_C.Γ, FeOk ref34_Top_C.P e := (ok_cons ok_ref34_room ok_nil)
def ref34_Top_s1 : List Slot := [.reg 5 (.int .i64)]
def ref34_Top_s2 : List Slot := [.reg 0 (.int .i64), .ref 3 (.ptr 3 0), .reg 5 (.int .i64), .reg 6 (.int .i64), .box true 3 27 tMove]
def ref34_Top_l2N (k0 : Int → Prop) : Nat → Int → Int → Int → Move → Prop
  | 0, _, _, _, _ => False
  | n + 1, d_0, w_5, bit_6, m_3 => (if (decide (bit_6 > 0)) = true then (if (decide ((wI64 (w_5 + bit_6)) ≤ m_3.2.2.1)) = true then (ref34_room d_0 m_3 (wI64 (w_5 + bit_6)) (fun r1 => (if r1 = true then (ref34_Top_l2N k0 n d_0 (wI64 (w_5 + bit_6)) (wI64 (Int.tdiv bit_6 2)) m_3) else (ref34_Top_l2N k0 n d_0 w_5 (wI64 (Int.tdiv bit_6 2)) m_3)))) else (ref34_Top_l2N k0 n d_0 w_5 (wI64 (Int.tdiv bit_6 2)) m_3)) else (k0 w_5))
def ref34_Top_l2 (d_0 : Int) (w_5 : Int) (bit_6 : Int) (m_3 : Move) (k0 : Int → Prop) : Prop := ∃ n, ref34_Top_l2N k0 n d_0 w_5 bit_6 m_3
noncomputable def ref34_Top_n_l2 (n : Nat) : Orc := ⟨[0, 0, 1, 0, 1, 1], ref34_Top_s2, fun x Φ => ref34_Top_l2N (fun w_5 => Φ (.stop [1, 1, 1] (encS ref34_Top_s1 (w_5, ())))) n x.1 x.2.1 x.2.2.1 x.2.2.2.1⟩
noncomputable def ref34_Top_o_l2 : Orc := ⟨[0, 0, 1, 0, 1, 1], ref34_Top_s2, fun x Φ => ref34_Top_l2 x.1 x.2.1 x.2.2.1 x.2.2.2.1 (fun w_5 => Φ (.stop [1, 1, 1] (encS ref34_Top_s1 (w_5, ()))))⟩
theorem ref34_Top_l2_eq (n : Nat) (x : sden ref34_Top_s2) (Φ : Out → Prop) : (ref34_Top_n_l2 (n + 1)).X x Φ = run ref34_Top_C [ref34_Top_n_l2 n] [([1, 1, 1], ref34_Top_s1)] 4000 true [0, 0, 1, 0, 1, 1] (encS ref34_Top_s2 x) Φ := by kernel_rfl
theorem ref34_Top_l2_ok : OrcOk ref34_Top_C ref34_Top_o_l2 := orc_loop hm ref34_Top_Γ (on := ref34_Top_n_l2) orc_nil (fun x Φ h => h) ref34_Top_l2_eq (fun x Φ ⟨n, h⟩ => ⟨n, x, h, rfl, rfl⟩)
def ref34_Top (d_0 : Int) (m_1 : Move) (K : Int → Prop) : Prop := (ref34_Top_l2 d_0 0 16384 m_1 (fun w_5 => (K w_5)))
noncomputable def fe_ref34_Top : Fe := ⟨101, [.val (.int .i64), .val tMove], [], [.int .i64], false, none, fun x y K => ref34_Top x.1 x.2.1 (fun r => K r (()))⟩
theorem ref34_Top_eq (x) (y) (K) : fe_ref34_Top.X x y K = run ref34_Top_C [ref34_Top_o_l2] [] 4000 true [] (entry [.val (.int .i64), .val tMove] [] x y) (retK Tryz.prog [.tmp 4] [] [.int .i64] K) := by kernel_rfl
theorem ok_ref34_Top : FeOk Tryz.prog fe_ref34_Top := fe_of_run (C := ref34_Top_C) hm ref34_Top_Γ (orc_cons ref34_Top_l2_ok orc_nil) (fn := Tryz.f101) Tryz.func101 rfl rfl (by kernel_rfl) ref34_Top_eq
/-! loftblock/loftblockref02.Div -/
def ref02_Div_s0 : List Slot := [.ref 4 (.ptr 4 0), .box true 4 138 tU, .ref 5 (.ptr 5 0), .box true 5 138 tU]
noncomputable def ref02_Div_C : Ctx := ⟨Tryz.prog, bodyOf Tryz.f187, 91, [fe_ref02_Minus, fe_ref02_Less], ref02_Div_s0⟩
theorem ref02_Div_Γ : ∀ e ∈ ref02_Div_C.Γ, FeOk ref02_Div_C.P e := (ok_cons ok_ref02_Minus (ok_cons ok_ref02_Less ok_nil))
def ref02_Div_s1 : List Slot := [.ref 2 (.ptr 2 0), .ref 3 (.ptr 3 0), .ref 4 (.ptr 4 0), .ref 5 (.ptr 5 0), .ref 6 (.ptr 6 0), .ref 7 (.ptr 7 0), .reg 8 (.int .i64), .box true 2 138 tU, .box true 3 138 tU, .box true 4 138 tU, .box true 5 138 tU, .box true 6 138 tU, .box true 7 138 tU]
def ref02_Div_s2 : List Slot := [.ref 2 (.ptr 2 0), .ref 3 (.ptr 3 0), .ref 4 (.ptr 4 0), .ref 5 (.ptr 5 0), .ref 6 (.ptr 6 0), .ref 7 (.ptr 7 0), .reg 8 (.int .i64), .reg 81 .bool, .box true 2 138 tU, .box true 3 138 tU, .box true 4 138 tU, .box true 5 138 tU, .box true 6 138 tU, .box true 7 138 tU]
def ref02_Div_j4 (i_8 : Int) (t_81 : Bool) (a_2 : U) (b_3 : U) (b_4 : U) (b_5 : U) (q_6 : U) (r_7 : U) (k0 : Int → U → U → U → U → U → U → Prop) : Prop := (if t_81 = true then (ref02_Minus r_7 b_3 (fun r1 => (k0 (wI64 (i_8 + 1)) a_2 b_3 b_4 b_5 (q_6.1, (wU64 (q_6.2 + 1))) r1))) else (k0 (wI64 (i_8 + 1)) a_2 b_3 b_4 b_5 q_6 r_7))
noncomputable def ref02_Div_o_j4 : Orc := ⟨[1, 1, 1, 1, 1, 0, 0, 1, 0, 0, 1, 0, 1, 1, 1], ref02_Div_s2, fun x Φ => ref02_Div_j4 x.1 x.2.1 x.2.2.1 x.2.2.2.1 x.2.2.2.2.1 x.2.2.2.2.2.1 x.2.2.2.2.2.2.1 x.2.2.2.2.2.2.2.1 (fun i_8 a_2 b_3 b_4 b_5 q_6 r_7 => Φ (.stop [0, 0, 1, 0, 1, 1, 1] (encS ref02_Div_s1 (i_8, a_2, b_3, b_4, b_5, q_6, r_7, ()))))⟩
theorem ref02_Div_j4_eq (x : sden ref02_Div_s2) (Φ : Out → Prop) : ref02_Div_o_j4.X x Φ = run ref02_Div_C [] [([0, 0, 1, 0, 1, 1, 1], ref02_Div_s1)] 4000 true [1, 1, 1, 1, 1, 0, 0, 1, 0, 0, 1, 0, 1, 1, 1] (encS ref02_Div_s2 x) Φ := by kernel_rfl
theorem ref02_Div_j4_ok : OrcOk ref02_Div_C ref02_Div_o_j4 := orc_of_run hm ref02_Div_Γ orc_nil ref02_Div_j4_eq
def ref02_Div_s3 : List Slot := [.ref 4 (.ptr 4 0), .ref 5 (.ptr 5 0), .ref 6 (.ptr 6 0), .ref 7 (.ptr 7 0), .box true 4 138 tU, .box true 5 138 tU, .box true 6 138 tU, .box true 7 138 tU]
def ref02_Div_l3N (k0 : U → U → U → U → Prop) : Nat → Int → U → U → U → U → U → U → Prop
  | 0, _, _, _, _, _, _, _ => False
  | n + 1, i_8, a_2, b_3, b_4, b_5, q_6, r_7 => (if (decide (i_8 < 128)) = true then (if (decide ((Int.fdiv r_7.1 (2 ^ 63)) > 0)) = true then (ref02_Div_j4 i_8 true ((wU64 ((wU64 (a_2.1 * 2 ^ 1)) + (Int.fdiv a_2.2 (2 ^ 63)))), (wU64 (a_2.2 * 2 ^ 1))) b_3 b_4 b_5 ((wU64 ((wU64 (q_6.1 * 2 ^ 1)) + (Int.fdiv q_6.2 (2 ^ 63)))), (wU64 (q_6.2 * 2 ^ 1))) ((wU64 ((wU64 (r_7.1 * 2 ^ 1)) + (Int.fdiv r_7.2 (2 ^ 63)))), (wU64 ((wU64 (r_7.2 * 2 ^ 1)) + (Int.fdiv a_2.1 (2 ^ 63))))) (fun i_8 a_2 b_3 b_4 b_5 q_6 r_7 => (ref02_Div_l3N k0 n i_8 a_2 b_3 b_4 b_5 q_6 r_7))) else (ref02_Less ((wU64 ((wU64 (r_7.1 * 2 ^ 1)) + (Int.fdiv r_7.2 (2 ^ 63)))), (wU64 ((wU64 (r_7.2 * 2 ^ 1)) + (Int.fdiv a_2.1 (2 ^ 63))))) b_3 (fun r2 => (ref02_Div_j4 i_8 (!r2) ((wU64 ((wU64 (a_2.1 * 2 ^ 1)) + (Int.fdiv a_2.2 (2 ^ 63)))), (wU64 (a_2.2 * 2 ^ 1))) b_3 b_4 b_5 ((wU64 ((wU64 (q_6.1 * 2 ^ 1)) + (Int.fdiv q_6.2 (2 ^ 63)))), (wU64 (q_6.2 * 2 ^ 1))) ((wU64 ((wU64 (r_7.1 * 2 ^ 1)) + (Int.fdiv r_7.2 (2 ^ 63)))), (wU64 ((wU64 (r_7.2 * 2 ^ 1)) + (Int.fdiv a_2.1 (2 ^ 63))))) (fun i_8 a_2 b_3 b_4 b_5 q_6 r_7 => (ref02_Div_l3N k0 n i_8 a_2 b_3 b_4 b_5 q_6 r_7)))))) else (k0 b_4 b_5 q_6 r_7))
def ref02_Div_l3 (i_8 : Int) (a_2 : U) (b_3 : U) (b_4 : U) (b_5 : U) (q_6 : U) (r_7 : U) (k0 : U → U → U → U → Prop) : Prop := ∃ n, ref02_Div_l3N k0 n i_8 a_2 b_3 b_4 b_5 q_6 r_7
noncomputable def ref02_Div_n_l3 (n : Nat) : Orc := ⟨[0, 0, 1, 0, 1, 1, 1], ref02_Div_s1, fun x Φ => ref02_Div_l3N (fun b_4 b_5 q_6 r_7 => Φ (.stop [1, 1, 1, 1] (encS ref02_Div_s3 (b_4, b_5, q_6, r_7, ())))) n x.1 x.2.1 x.2.2.1 x.2.2.2.1 x.2.2.2.2.1 x.2.2.2.2.2.1 x.2.2.2.2.2.2.1⟩
noncomputable def ref02_Div_o_l3 : Orc := ⟨[0, 0, 1, 0, 1, 1, 1], ref02_Div_s1, fun x Φ => ref02_Div_l3 x.1 x.2.1 x.2.2.1 x.2.2.2.1 x.2.2.2.2.1 x.2.2.2.2.2.1 x.2.2.2.2.2.2.1 (fun b_4 b_5 q_6 r_7 => Φ (.stop [1, 1, 1, 1] (encS ref02_Div_s3 (b_4, b_5, q_6, r_7, ()))))⟩
theorem ref02_Div_l3_eq (n : Nat) (x : sden ref02_Div_s1) (Φ : Out → Prop) : (ref02_Div_n_l3 (n + 1)).X x Φ = run ref02_Div_C [ref02_Div_n_l3 n, ref02_Div_o_j4] [([1, 1, 1, 1], ref02_Div_s3)] 4000 true [0, 0, 1, 0, 1, 1, 1] (encS ref02_Div_s1 x) Φ := by kernel_rfl
theorem ref02_Div_l3_ok : OrcOk ref02_Div_C ref02_Div_o_l3 := orc_loop hm ref02_Div_Γ (on := ref02_Div_n_l3) (orc_cons ref02_Div_j4_ok orc_nil) (fun x Φ h => h) ref02_Div_l3_eq (fun x Φ ⟨n, h⟩ => ⟨n, x, h, rfl, rfl⟩)
def ref02_Div_s4 : List Slot := [.ref 2 (.ptr 2 0), .ref 3 (.ptr 3 0), .ref 4 (.ptr 4 0), .ref 5 (.ptr 5 0), .reg 17 .bool, .box true 2 138 tU, .box true 3 138 tU, .box true 4 138 tU, .box true 5 138 tU]
def ref02_Div_j2 (t_17 : Bool) (a_2 : U) (b_3 : U) (b_4 : U) (b_5 : U) (kr : U → U → Prop) : Prop := (if t_17 = true then (if b_3.2 = 0 then False else (if b_3.2 = 0 then False else (kr (0, (wU64 (Int.tdiv a_2.2 b_3.2))) (0, (Int.tmod a_2.2 b_3.2))))) else (ref02_Div_l3 0 a_2 b_3 b_4 b_5 (0, 0) (0, 0) (fun b_4 b_5 q_6 r_7 => (kr q_6 r_7))))
noncomputable def ref02_Div_o_j2 : Orc := ⟨[1, 0, 1], ref02_Div_s4, fun x Φ => ref02_Div_j2 x.1 x.2.1 x.2.2.1 x.2.2.2.1 x.2.2.2.2.1 (fun rb_4 rb_5 => Φ (.ret (encS ref02_Div_s0 (rb_4, rb_5, ()))))⟩
theorem ref02_Div_j2_eq (x : sden ref02_Div_s4) (Φ : Out → Prop) : ref02_Div_o_j2.X x Φ = run ref02_Div_C [ref02_Div_o_l3] [] 4000 true [1, 0, 1] (encS ref02_Div_s4 x) Φ := by kernel_rfl
theorem ref02_Div_j2_ok : OrcOk ref02_Div_C ref02_Div_o_j2 := orc_of_run hm ref02_Div_Γ (orc_cons ref02_Div_l3_ok orc_nil) ref02_Div_j2_eq
def ref02_Div (a_0 : U) (b_1 : U) (K : (U × U) → Prop) : Prop := (if (a_0.1 == 0) = true then (ref02_Div_j2 (b_1.1 == 0) a_0 b_1 (0, 0) (0, 0) (fun rb_4 rb_5 => (K (rb_4, rb_5)))) else (ref02_Div_j2 false a_0 b_1 (0, 0) (0, 0) (fun rb_4 rb_5 => (K (rb_4, rb_5)))))
noncomputable def fe_ref02_Div : Fe := ⟨187, [.val tU, .val tU], [], [tU, tU], false, none, fun x y K => ref02_Div x.1 x.2.1 (fun r => K r (()))⟩
theorem ref02_Div_eq (x) (y) (K) : fe_ref02_Div.X x y K = run ref02_Div_C [ref02_Div_o_j2] [] 4000 true [] (entry [.val tU, .val tU] [] x y) (retK Tryz.prog [.cell 4 138, .cell 5 138] [] [tU, tU] K) := by kernel_rfl
theorem ok_ref02_Div : FeOk Tryz.prog fe_ref02_Div := fe_of_run (C := ref02_Div_C) hm ref02_Div_Γ (orc_cons ref02_Div_j2_ok orc_nil) (fn := Tryz.f187) Tryz.func187 rfl rfl (by kernel_rfl) ref02_Div_eq
/-! loftblock/loftblockref02.Made -/
def ref02_Made_s0 : List Slot := [.ref 6 (.ptr 6 0), .box true 6 29 tFrac, .reg 7 (.int .i64)]
noncomputable def ref02_Made_C : Ctx := ⟨Tryz.prog, bodyOf Tryz.f124, 67, [fe_ref02_Gcd, fe_ref02_Div], ref02_Made_s0⟩
theorem ref02_Made_Γ : ∀ e ∈ ref02_Made_C.Γ, FeOk ref02_Made_C.P e := (ok_cons ok_ref02_Gcd (ok_cons ok_ref02_Div ok_nil))
def ref02_Made_s1 : List Slot := [.reg 1 .bool, .ref 6 (.ptr 6 0), .ref 9 (.ptr 9 0), .ref 11 (.ptr 11 0), .reg 49 .bool, .box true 6 29 tFrac, .box true 9 138 tU, .box true 11 138 tU]
def ref02_Made_j2 (neg_1 : Bool) (t_49 : Bool) (b_6 : Frac) (n_9 : U) (d_11 : U) (kr : Frac → Int → Prop) : Prop := (if t_49 = true then (kr (0, 0) 5) else (if neg_1 = true then (kr ((wI64 (0 - (wI64 (n_9.2)))), (wI64 (d_11.2))) 0) else (kr ((wI64 (n_9.2)), (wI64 (d_11.2))) 0)))
noncomputable def ref02_Made_o_j2 : Orc := ⟨[1, 0, 1, 1, 1, 1, 1], ref02_Made_s1, fun x Φ => ref02_Made_j2 x.1 x.2.1 x.2.2.1 x.2.2.2.1 x.2.2.2.2.1 (fun rb_6 rt_7 => Φ (.ret (encS ref02_Made_s0 (rb_6, rt_7, ()))))⟩
theorem ref02_Made_j2_eq (x : sden ref02_Made_s1) (Φ : Out → Prop) : ref02_Made_o_j2.X x Φ = run ref02_Made_C [] [] 4000 true [1, 0, 1, 1, 1, 1, 1] (encS ref02_Made_s1 x) Φ := by kernel_rfl
theorem ref02_Made_j2_ok : OrcOk ref02_Made_C ref02_Made_o_j2 := orc_of_run hm ref02_Made_Γ orc_nil ref02_Made_j2_eq
def ref02_Made (num_0 : U) (neg_1 : Bool) (den_2 : U) (K : (Frac × Int) → Prop) : Prop := (if ((den_2.1 == 0) && (den_2.2 == 0)) = true then (K ((0, 0), 16)) else (ref02_Gcd num_0 den_2 (fun r1 => (ref02_Div num_0 r1 (fun r2 => (ref02_Div den_2 r1 (fun r3 => (if (decide (r2.1.1 > 0)) = true then (ref02_Made_j2 neg_1 true (0, 0) r2.1 r3.1 (fun rb_6 rt_7 => (K (rb_6, rt_7)))) else (if (decide (r2.1.2 > 1152921504606846976)) = true then (ref02_Made_j2 neg_1 true (0, 0) r2.1 r3.1 (fun rb_6 rt_7 => (K (rb_6, rt_7)))) else (if (decide (r3.1.1 > 0)) = true then (ref02_Made_j2 neg_1 true (0, 0) r2.1 r3.1 (fun rb_6 rt_7 => (K (rb_6, rt_7)))) else (ref02_Made_j2 neg_1 (decide (r3.1.2 > 1152921504606846976)) (0, 0) r2.1 r3.1 (fun rb_6 rt_7 => (K (rb_6, rt_7))))))))))))))
noncomputable def fe_ref02_Made : Fe := ⟨124, [.val tU, .val .bool, .val tU], [], [tFrac, .int .i64], false, none, fun x y K => ref02_Made x.1 x.2.1 x.2.2.1 (fun r => K r (()))⟩
theorem ref02_Made_eq (x) (y) (K) : fe_ref02_Made.X x y K = run ref02_Made_C [ref02_Made_o_j2] [] 4000 true [] (entry [.val tU, .val .bool, .val tU] [] x y) (retK Tryz.prog [.cell 6 29, .tmp 7] [] [tFrac, .int .i64] K) := by kernel_rfl
theorem ok_ref02_Made : FeOk Tryz.prog fe_ref02_Made := fe_of_run (C := ref02_Made_C) hm ref02_Made_Γ (orc_cons ref02_Made_j2_ok orc_nil) (fn := Tryz.f124) Tryz.func124 rfl rfl (by kernel_rfl) ref02_Made_eq
/-! loftblock/loftblockref02.Make -/
def ref02_Make_s0 : List Slot := [.ref 4 (.ptr 4 0), .box true 4 29 tFrac, .reg 5 (.int .i64)]
noncomputable def ref02_Make_C : Ctx := ⟨Tryz.prog, bodyOf Tryz.f58, 20, [fe_ref02_Size, fe_ref02_Made], ref02_Make_s0⟩
theorem ref02_Make_Γ : ∀ e ∈ ref02_Make_C.Γ, FeOk ref02_Make_C.P e := (ok_cons ok_ref02_Size (ok_cons ok_ref02_Made ok_nil))
def ref02_Make (num_0 : Int) (den_1 : Int) (K : (Frac × Int) → Prop) : Prop := (ref02_Size num_0 (fun r1 => (ref02_Size den_1 (fun r2 => (ref02_Made (0, r1) (!((decide (num_0 < 0)) == (decide (den_1 < 0)))) (0, r2) (fun r3 => (K (r3.1, r3.2))))))))
noncomputable def fe_ref02_Make : Fe := ⟨58, [.val (.int .i64), .val (.int .i64)], [], [tFrac, .int .i64], false, none, fun x y K => ref02_Make x.1 x.2.1 (fun r => K r (()))⟩
theorem ref02_Make_eq (x) (y) (K) : fe_ref02_Make.X x y K = run ref02_Make_C [] [] 4000 true [] (entry [.val (.int .i64), .val (.int .i64)] [] x y) (retK Tryz.prog [.cell 4 29, .tmp 5] [] [tFrac, .int .i64] K) := by kernel_rfl
theorem ok_ref02_Make : FeOk Tryz.prog fe_ref02_Make := fe_of_run (C := ref02_Make_C) hm ref02_Make_Γ orc_nil (fn := Tryz.f58) Tryz.func58 rfl rfl (by kernel_rfl) ref02_Make_eq
/-! loftblock/loftblockref34.frac -/
def ref34_frac_s0 : List Slot := [.ref 4 (.ptr 4 0), .box true 4 29 tFrac]
noncomputable def ref34_frac_C : Ctx := ⟨Tryz.prog, bodyOf Tryz.f102, 14, [fe_ref02_Make], ref34_frac_s0⟩
theorem ref34_frac_Γ : ∀ e ∈ ref34_frac_C.Γ, FeOk ref34_frac_C.P e := (ok_cons ok_ref02_Make ok_nil)
def ref34_frac (num_0 : Int) (den_1 : Int) (K : Frac → Prop) : Prop := (ref02_Make num_0 den_1 (fun r1 => (K r1.1)))
noncomputable def fe_ref34_frac : Fe := ⟨102, [.val (.int .i64), .val (.int .i64)], [], [tFrac], false, none, fun x y K => ref34_frac x.1 x.2.1 (fun r => K r (()))⟩
theorem ref34_frac_eq (x) (y) (K) : fe_ref34_frac.X x y K = run ref34_frac_C [] [] 4000 true [] (entry [.val (.int .i64), .val (.int .i64)] [] x y) (retK Tryz.prog [.cell 4 29] [] [tFrac] K) := by kernel_rfl
theorem ok_ref34_frac : FeOk Tryz.prog fe_ref34_frac := fe_of_run (C := ref34_frac_C) hm ref34_frac_Γ orc_nil (fn := Tryz.f102) Tryz.func102 rfl rfl (by kernel_rfl) ref34_frac_eq
/-! loftblock/loftblockref34.Time -/
def ref34_Time_s0 : List Slot := [.ref 4 (.ptr 4 0), .box true 4 29 tFrac]
noncomputable def ref34_Time_C : Ctx := ⟨Tryz.prog, bodyOf Tryz.f29, 39, [fe_ref02_Of, fe_ref34_Top, fe_ref34_frac], ref34_Time_s0⟩
theorem ref34_Time_Γ : ∀ e ∈ ref34_Time_C.Γ, FeOk ref34_Time_C.P e := (ok_cons ok_ref02_Of (ok_cons ok_ref34_Top (ok_cons ok_ref34_frac ok_nil)))
def ref34_Time (d_0 : Int) (m_1 : Move) (K : Frac → Prop) : Prop := (if (d_0 == 0) = true then (ref02_Of 0 (fun r1 => (K r1))) else (ref34_Top d_0 m_1 (fun r2 => (ref34_frac (wI64 ((wI64 ((wI64 ((wI64 (2 * m_1.2.2.2.1)) * m_1.2.2.2.2)) * d_0)) + (wI64 ((wI64 (r2 * r2)) * (wI64 (m_1.2.2.2.1 + m_1.2.2.2.2)))))) (wI64 ((wI64 ((wI64 (2 * m_1.2.2.2.1)) * m_1.2.2.2.2)) * r2)) (fun r3 => (K r3))))))
noncomputable def fe_ref34_Time : Fe := ⟨29, [.val (.int .i64), .val tMove], [], [tFrac], false, none, fun x y K => ref34_Time x.1 x.2.1 (fun r => K r (()))⟩
theorem ref34_Time_eq (x) (y) (K) : fe_ref34_Time.X x y K = run ref34_Time_C [] [] 4000 true [] (entry [.val (.int .i64), .val tMove] [] x y) (retK Tryz.prog [.cell 4 29] [] [tFrac] K) := by kernel_rfl
theorem ok_ref34_Time : FeOk Tryz.prog fe_ref34_Time := fe_of_run (C := ref34_Time_C) hm ref34_Time_Γ orc_nil (fn := Tryz.f29) Tryz.func29 rfl rfl (by kernel_rfl) ref34_Time_eq
/-! loftblock/loftblockref34.Curve -/
def ref34_Curve_s0 : List Slot := [.reg 4 (.slice tPiece3)]
noncomputable def ref34_Curve_C : Ctx := ⟨Tryz.prog, bodyOf Tryz.f99, 126, [fe_ref02_Of, fe_ref34_Time, fe_ref34_Top, fe_ref34_frac], ref34_Curve_s0⟩
theorem ref34_Curve_Γ : ∀ e ∈ ref34_Curve_C.Γ, FeOk ref34_Curve_C.P e := (ok_cons ok_ref02_Of (ok_cons ok_ref34_Time (ok_cons ok_ref34_Top (ok_cons ok_ref34_frac ok_nil))))
def ref34_Curve_s1 : List Slot := [.reg 0 (.int .i64), .ref 3 (.ptr 3 0), .ref 6 (.ptr 6 0), .reg 7 (.int .i64), .ref 8 (.ptr 8 0), .row 9 150 tPiece3, .ref 12 (.ptr 12 0), .box true 3 27 tMove, .box true 6 150 tPiece3, .box true 8 29 tFrac, .box true 12 29 tFrac]
def ref34_Curve_j2 (d_0 : Int) (w_7 : Int) (out_9 : List Piece3) (m_3 : Move) (last_6 : Piece3) (speed_8 : Frac) (e_12 : Frac) (kr : (List Piece3) → Prop) : Prop := (ref34_frac (wI64 ((wI64 ((wI64 (2 * m_3.2.2.2.2)) * d_0)) - (wI64 (w_7 * w_7)))) (wI64 (2 * m_3.2.2.2.2)) (fun r10 => (ref34_frac (wI64 (0 - m_3.2.2.2.2)) 2 (fun r11 => ((len out_9 + len [(e_12, r10, speed_8, r11)] ≤ most) ∧ ((len (out_9 ++ [(e_12, r10, speed_8, r11)]) + len [last_6] ≤ most) ∧ (kr ((out_9 ++ [(e_12, r10, speed_8, r11)]) ++ [last_6]))))))))
noncomputable def ref34_Curve_o_j2 : Orc := ⟨[1, 1, 1, 1, 1, 1, 1, 1, 1, 1, 1], ref34_Curve_s1, fun x Φ => ref34_Curve_j2 x.1 x.2.1 x.2.2.1 x.2.2.2.1 x.2.2.2.2.1 x.2.2.2.2.2.1 x.2.2.2.2.2.2.1 (fun rt_4 => Φ (.ret (encS ref34_Curve_s0 (rt_4, ()))))⟩
theorem ref34_Curve_j2_eq (x : sden ref34_Curve_s1) (Φ : Out → Prop) : ref34_Curve_o_j2.X x Φ = run ref34_Curve_C [] [] 4000 true [1, 1, 1, 1, 1, 1, 1, 1, 1, 1, 1] (encS ref34_Curve_s1 x) Φ := by kernel_rfl
theorem ref34_Curve_j2_ok : OrcOk ref34_Curve_C ref34_Curve_o_j2 := orc_of_run hm ref34_Curve_Γ orc_nil ref34_Curve_j2_eq
def ref34_Curve (d_0 : Int) (m_1 : Move) (K : (List Piece3) → Prop) : Prop := (ref02_Of 0 (fun r1 => (if (d_0 == 0) = true then (K [(r1, r1, r1, r1)]) else (ref34_Time d_0 m_1 (fun r2 => (ref02_Of d_0 (fun r3 => (ref34_Top d_0 m_1 (fun r4 => (ref02_Of r4 (fun r5 => (ref34_frac m_1.2.2.2.1 2 (fun r6 => (ref34_frac r4 m_1.2.2.2.1 (fun r7 => (ref34_frac (wI64 ((wI64 ((wI64 ((wI64 (2 * m_1.2.2.2.2)) * r4)) * r4)) + (wI64 ((wI64 ((wI64 ((wI64 (2 * m_1.2.2.2.1)) * m_1.2.2.2.2)) * d_0)) - (wI64 ((wI64 (r4 * r4)) * (wI64 (m_1.2.2.2.1 + m_1.2.2.2.2)))))))) (wI64 ((wI64 ((wI64 (2 * m_1.2.2.2.1)) * m_1.2.2.2.2)) * r4)) (fun r8 => (if (decide ((wI64 ((wI64 ((wI64 ((wI64 (2 * m_1.2.2.2.1)) * m_1.2.2.2.2)) * d_0)) - (wI64 ((wI64 (r4 * r4)) * (wI64 (m_1.2.2.2.1 + m_1.2.2.2.2)))))) > 0)) = true then (ref34_frac (wI64 (r4 * r4)) (wI64 (2 * m_1.2.2.2.1)) (fun r9 => ((len [(r1, r1, r1, r6)] + len [(r7, r9, r5, r1)] ≤ most) ∧ (ref34_Curve_j2 d_0 r4 ([(r1, r1, r1, r6)] ++ [(r7, r9, r5, r1)]) m_1 (r2, r3, r1, r1) r5 r8 (fun rt_4 => (K rt_4)))))) else (ref34_Curve_j2 d_0 r4 [(r1, r1, r1, r6)] m_1 (r2, r3, r1, r1) r5 r8 (fun rt_4 => (K rt_4)))))))))))))))))))))
noncomputable def fe_ref34_Curve : Fe := ⟨99, [.val (.int .i64), .val tMove], [], [.slice tPiece3], true, none, fun x y K => ref34_Curve x.1 x.2.1 (fun r => K r (()))⟩
theorem ref34_Curve_eq (x) (y) (K) : fe_ref34_Curve.X x y K = run ref34_Curve_C [ref34_Curve_o_j2] [] 4000 true [] (entry [.val (.int .i64), .val tMove] [] x y) (retK Tryz.prog [.tmp 4] [] [.slice tPiece3] K) := by kernel_rfl
theorem ok_ref34_Curve : FeOk Tryz.prog fe_ref34_Curve := fe_of_run (C := ref34_Curve_C) hm ref34_Curve_Γ (orc_cons ref34_Curve_j2_ok orc_nil) (fn := Tryz.f99) Tryz.func99 rfl rfl (by kernel_rfl) ref34_Curve_eq
/-! loftblock/loftblockref02.Mul -/
def ref02_Mul_s0 : List Slot := [.ref 4 (.ptr 4 0), .box true 4 138 tU]
noncomputable def ref02_Mul_C : Ctx := ⟨Tryz.prog, bodyOf Tryz.f128, 50, [], ref02_Mul_s0⟩
theorem ref02_Mul_Γ : ∀ e ∈ ref02_Mul_C.Γ, FeOk ref02_Mul_C.P e := ok_nil
def ref02_Mul (a_0 : Int) (b_1 : Int) (K : U → Prop) : Prop := (K ((wU64 ((wU64 ((wU64 ((Int.fdiv a_0 (2 ^ 32)) * (Int.fdiv b_1 (2 ^ 32)))) + (Int.fdiv (wU64 ((wU64 ((Int.fdiv a_0 (2 ^ 32)) * (bAnd .u64 b_1 4294967295))) + (Int.fdiv (wU64 ((bAnd .u64 a_0 4294967295) * (bAnd .u64 b_1 4294967295))) (2 ^ 32)))) (2 ^ 32)))) + (Int.fdiv (wU64 ((wU64 ((bAnd .u64 a_0 4294967295) * (Int.fdiv b_1 (2 ^ 32)))) + (bAnd .u64 (wU64 ((wU64 ((Int.fdiv a_0 (2 ^ 32)) * (bAnd .u64 b_1 4294967295))) + (Int.fdiv (wU64 ((bAnd .u64 a_0 4294967295) * (bAnd .u64 b_1 4294967295))) (2 ^ 32)))) 4294967295))) (2 ^ 32)))), (wU64 ((wU64 ((wU64 ((wU64 ((bAnd .u64 a_0 4294967295) * (Int.fdiv b_1 (2 ^ 32)))) + (bAnd .u64 (wU64 ((wU64 ((Int.fdiv a_0 (2 ^ 32)) * (bAnd .u64 b_1 4294967295))) + (Int.fdiv (wU64 ((bAnd .u64 a_0 4294967295) * (bAnd .u64 b_1 4294967295))) (2 ^ 32)))) 4294967295))) * 2 ^ 32)) + (bAnd .u64 (wU64 ((bAnd .u64 a_0 4294967295) * (bAnd .u64 b_1 4294967295))) 4294967295)))))
noncomputable def fe_ref02_Mul : Fe := ⟨128, [.val (.int .u64), .val (.int .u64)], [], [tU], false, none, fun x y K => ref02_Mul x.1 x.2.1 (fun r => K r (()))⟩
theorem ref02_Mul_eq (x) (y) (K) : fe_ref02_Mul.X x y K = run ref02_Mul_C [] [] 4000 true [] (entry [.val (.int .u64), .val (.int .u64)] [] x y) (retK Tryz.prog [.cell 4 138] [] [tU] K) := by kernel_rfl
theorem ok_ref02_Mul : FeOk Tryz.prog fe_ref02_Mul := fe_of_run (C := ref02_Mul_C) hm ref02_Mul_Γ orc_nil (fn := Tryz.f128) Tryz.func128 rfl rfl (by kernel_rfl) ref02_Mul_eq
/-! loftblock/loftblockref02.Add -/
def ref02_Add_s0 : List Slot := [.ref 4 (.ptr 4 0), .box true 4 29 tFrac, .reg 5 (.int .i64)]
noncomputable def ref02_Add_C : Ctx := ⟨Tryz.prog, bodyOf Tryz.f87, 70, [fe_ref02_Size, fe_ref02_Mul, fe_ref02_Plus, fe_ref02_Made, fe_ref02_Less, fe_ref02_Minus], ref02_Add_s0⟩
theorem ref02_Add_Γ : ∀ e ∈ ref02_Add_C.Γ, FeOk ref02_Add_C.P e := (ok_cons ok_ref02_Size (ok_cons ok_ref02_Mul (ok_cons ok_ref02_Plus (ok_cons ok_ref02_Made (ok_cons ok_ref02_Less (ok_cons ok_ref02_Minus ok_nil))))))
def ref02_Add (a_0 : Frac) (b_1 : Frac) (K : (Frac × Int) → Prop) : Prop := (ref02_Size a_0.1 (fun r1 => (ref02_Size b_1.2 (fun r2 => (ref02_Mul r1 r2 (fun r3 => (ref02_Size b_1.1 (fun r4 => (ref02_Size a_0.2 (fun r5 => (ref02_Mul r4 r5 (fun r6 => (ref02_Size a_0.2 (fun r7 => (ref02_Size b_1.2 (fun r8 => (ref02_Mul r7 r8 (fun r9 => (if ((decide (a_0.1 < 0)) == (decide (b_1.1 < 0))) = true then (ref02_Plus r3 r6 (fun r10 => (ref02_Made r10 (decide (a_0.1 < 0)) r9 (fun r11 => (K (r11.1, r11.2)))))) else (ref02_Less r3 r6 (fun r12 => (if r12 = true then (ref02_Minus r6 r3 (fun r13 => (ref02_Made r13 (decide (b_1.1 < 0)) r9 (fun r14 => (K (r14.1, r14.2)))))) else (ref02_Minus r3 r6 (fun r15 => (ref02_Made r15 (decide (a_0.1 < 0)) r9 (fun r16 => (K (r16.1, r16.2))))))))))))))))))))))))))))
noncomputable def fe_ref02_Add : Fe := ⟨87, [.val tFrac, .val tFrac], [], [tFrac, .int .i64], false, none, fun x y K => ref02_Add x.1 x.2.1 (fun r => K r (()))⟩
theorem ref02_Add_eq (x) (y) (K) : fe_ref02_Add.X x y K = run ref02_Add_C [] [] 4000 true [] (entry [.val tFrac, .val tFrac] [] x y) (retK Tryz.prog [.cell 4 29, .tmp 5] [] [tFrac, .int .i64] K) := by kernel_rfl
theorem ok_ref02_Add : FeOk Tryz.prog fe_ref02_Add := fe_of_run (C := ref02_Add_C) hm ref02_Add_Γ orc_nil (fn := Tryz.f87) Tryz.func87 rfl rfl (by kernel_rfl) ref02_Add_eq
/-! loftblock/loftblockref02.Neg -/
def ref02_Neg_s0 : List Slot := [.ref 2 (.ptr 2 0), .box true 2 29 tFrac]
noncomputable def ref02_Neg_C : Ctx := ⟨Tryz.prog, bodyOf Tryz.f100, 9, [], ref02_Neg_s0⟩
theorem ref02_Neg_Γ : ∀ e ∈ ref02_Neg_C.Γ, FeOk ref02_Neg_C.P e := ok_nil
def ref02_Neg (a_0 : Frac) (K : Frac → Prop) : Prop := (K ((wI64 (0 - a_0.1)), a_0.2))
noncomputable def fe_ref02_Neg : Fe := ⟨100, [.val tFrac], [], [tFrac], false, none, fun x y K => ref02_Neg x.1 (fun r => K r (()))⟩
theorem ref02_Neg_eq (x) (y) (K) : fe_ref02_Neg.X x y K = run ref02_Neg_C [] [] 4000 true [] (entry [.val tFrac] [] x y) (retK Tryz.prog [.cell 2 29] [] [tFrac] K) := by kernel_rfl
theorem ok_ref02_Neg : FeOk Tryz.prog fe_ref02_Neg := fe_of_run (C := ref02_Neg_C) hm ref02_Neg_Γ orc_nil (fn := Tryz.f100) Tryz.func100 rfl rfl (by kernel_rfl) ref02_Neg_eq
/-! loftblock/loftblockref02.Sub -/
def ref02_Sub_s0 : List Slot := [.ref 4 (.ptr 4 0), .box true 4 29 tFrac, .reg 5 (.int .i64)]
noncomputable def ref02_Sub_C : Ctx := ⟨Tryz.prog, bodyOf Tryz.f88, 12, [fe_ref02_Neg, fe_ref02_Add], ref02_Sub_s0⟩
theorem ref02_Sub_Γ : ∀ e ∈ ref02_Sub_C.Γ, FeOk ref02_Sub_C.P e := (ok_cons ok_ref02_Neg (ok_cons ok_ref02_Add ok_nil))
def ref02_Sub (a_0 : Frac) (b_1 : Frac) (K : (Frac × Int) → Prop) : Prop := (ref02_Neg b_1 (fun r1 => (ref02_Add a_0 r1 (fun r2 => (K (r2.1, r2.2))))))
noncomputable def fe_ref02_Sub : Fe := ⟨88, [.val tFrac, .val tFrac], [], [tFrac, .int .i64], false, none, fun x y K => ref02_Sub x.1 x.2.1 (fun r => K r (()))⟩
theorem ref02_Sub_eq (x) (y) (K) : fe_ref02_Sub.X x y K = run ref02_Sub_C [] [] 4000 true [] (entry [.val tFrac, .val tFrac] [] x y) (retK Tryz.prog [.cell 4 29, .tmp 5] [] [tFrac, .int .i64] K) := by kernel_rfl
theorem ok_ref02_Sub : FeOk Tryz.prog fe_ref02_Sub := fe_of_run (C := ref02_Sub_C) hm ref02_Sub_Γ orc_nil (fn := Tryz.f88) Tryz.func88 rfl rfl (by kernel_rfl) ref02_Sub_eq
/-! loftblock/loftblockref35.Path -/
def ref35_Path_s0 : List Slot := [.reg 4 (.slice tPiece3)]
noncomputable def ref35_Path_C : Ctx := ⟨Tryz.prog, bodyOf Tryz.f28, 60, [fe_ref35_Distance, fe_ref34_Curve, fe_ref02_Of, fe_ref02_Add, fe_ref02_Sub, fe_ref02_Neg], ref35_Path_s0⟩
theorem ref35_Path_Γ : ∀ e ∈ ref35_Path_C.Γ, FeOk ref35_Path_C.P e := (ok_cons ok_ref35_Distance (ok_cons ok_ref34_Curve (ok_cons ok_ref02_Of (ok_cons ok_ref02_Add (ok_cons ok_ref02_Sub (ok_cons ok_ref02_Neg ok_nil))))))
def ref35_Path_s1 : List Slot := [.row 6 150 tPiece3]
def ref35_Path_s2 : List Slot := [.reg 0 (.int .i64), .ref 3 (.ptr 3 0), .reg 5 (.slice tPiece3), .row 6 150 tPiece3, .reg 7 (.int .i64), .box true 3 27 tMove]
def ref35_Path_l2N (k0 : (List Piece3) → Prop) : Nat → Int → List Piece3 → List Piece3 → Int → Move → Prop
  | 0, _, _, _, _, _ => False
  | n + 1, from_0, c_5, out_6, i_7, m_3 => (if (decide (i_7 < (len c_5))) = true then ((0 ≤ i_7 ∧ i_7 < len c_5) ∧ (if (decide (m_3.2.1 ≥ from_0)) = true then (ref02_Of from_0 (fun r3 => (ref02_Add r3 (atPiece3 c_5 i_7).2.1 (fun r4 => ((len out_6 + len [((atPiece3 c_5 i_7).1, r4.1, (atPiece3 c_5 i_7).2.2)] ≤ most) ∧ (ref35_Path_l2N k0 n from_0 c_5 (out_6 ++ [((atPiece3 c_5 i_7).1, r4.1, (atPiece3 c_5 i_7).2.2)]) (wI64 (i_7 + 1)) m_3)))))) else (ref02_Of from_0 (fun r5 => (ref02_Sub r5 (atPiece3 c_5 i_7).2.1 (fun r6 => (ref02_Neg (atPiece3 c_5 i_7).2.2.1 (fun r7 => (ref02_Neg (atPiece3 c_5 i_7).2.2.2 (fun r8 => ((len out_6 + len [((atPiece3 c_5 i_7).1, r6.1, r7, r8)] ≤ most) ∧ (ref35_Path_l2N k0 n from_0 c_5 (out_6 ++ [((atPiece3 c_5 i_7).1, r6.1, r7, r8)]) (wI64 (i_7 + 1)) m_3)))))))))))) else (k0 out_6))
def ref35_Path_l2 (from_0 : Int) (c_5 : List Piece3) (out_6 : List Piece3) (i_7 : Int) (m_3 : Move) (k0 : (List Piece3) → Prop) : Prop := ∃ n, ref35_Path_l2N k0 n from_0 c_5 out_6 i_7 m_3
noncomputable def ref35_Path_n_l2 (n : Nat) : Orc := ⟨[0, 0, 1, 0, 1, 1, 1], ref35_Path_s2, fun x Φ => ref35_Path_l2N (fun out_6 => Φ (.stop [1, 1, 1, 1] (encS ref35_Path_s1 (out_6, ())))) n x.1 x.2.1 x.2.2.1 x.2.2.2.1 x.2.2.2.2.1⟩
noncomputable def ref35_Path_o_l2 : Orc := ⟨[0, 0, 1, 0, 1, 1, 1], ref35_Path_s2, fun x Φ => ref35_Path_l2 x.1 x.2.1 x.2.2.1 x.2.2.2.1 x.2.2.2.2.1 (fun out_6 => Φ (.stop [1, 1, 1, 1] (encS ref35_Path_s1 (out_6, ()))))⟩
theorem ref35_Path_l2_eq (n : Nat) (x : sden ref35_Path_s2) (Φ : Out → Prop) : (ref35_Path_n_l2 (n + 1)).X x Φ = run ref35_Path_C [ref35_Path_n_l2 n] [([1, 1, 1, 1], ref35_Path_s1)] 4000 true [0, 0, 1, 0, 1, 1, 1] (encS ref35_Path_s2 x) Φ := by kernel_rfl
theorem ref35_Path_l2_ok : OrcOk ref35_Path_C ref35_Path_o_l2 := orc_loop hm ref35_Path_Γ (on := ref35_Path_n_l2) orc_nil (fun x Φ h => h) ref35_Path_l2_eq (fun x Φ ⟨n, h⟩ => ⟨n, x, h, rfl, rfl⟩)
def ref35_Path (from_0 : Int) (m_1 : Move) (K : (List Piece3) → Prop) : Prop := (ref35_Distance from_0 m_1.2.1 (fun r1 => (ref34_Curve r1 m_1 (fun r2 => (ref35_Path_l2 from_0 r2 [] 0 m_1 (fun out_6 => (K out_6)))))))
noncomputable def fe_ref35_Path : Fe := ⟨28, [.val (.int .i64), .val tMove], [], [.slice tPiece3], true, none, fun x y K => ref35_Path x.1 x.2.1 (fun r => K r (()))⟩
theorem ref35_Path_eq (x) (y) (K) : fe_ref35_Path.X x y K = run ref35_Path_C [ref35_Path_o_l2] [] 4000 true [] (entry [.val (.int .i64), .val tMove] [] x y) (retK Tryz.prog [.tmp 4] [] [.slice tPiece3] K) := by kernel_rfl
theorem ok_ref35_Path : FeOk Tryz.prog fe_ref35_Path := fe_of_run (C := ref35_Path_C) hm ref35_Path_Γ (orc_cons ref35_Path_l2_ok orc_nil) (fn := Tryz.f28) Tryz.func28 rfl rfl (by kernel_rfl) ref35_Path_eq
/-! loftblock/loftblockref02.Cmp -/
def ref02_Cmp_s0 : List Slot := [.reg 4 (.int .i64)]
noncomputable def ref02_Cmp_C : Ctx := ⟨Tryz.prog, bodyOf Tryz.f60, 47, [fe_ref02_Size, fe_ref02_Mul, fe_ref02_Less], ref02_Cmp_s0⟩
theorem ref02_Cmp_Γ : ∀ e ∈ ref02_Cmp_C.Γ, FeOk ref02_Cmp_C.P e := (ok_cons ok_ref02_Size (ok_cons ok_ref02_Mul (ok_cons ok_ref02_Less ok_nil)))
def ref02_Cmp_s1 : List Slot := [.ref 2 (.ptr 2 0), .ref 5 (.ptr 5 0), .ref 6 (.ptr 6 0), .reg 36 .bool, .box true 2 29 tFrac, .box true 5 138 tU, .box true 6 138 tU]
def ref02_Cmp_j3 (t_36 : Bool) (a_2 : Frac) (x_5 : U) (y_6 : U) (kr : Int → Prop) : Prop := (if t_36 = true then (kr 1) else (if ((x_5.1 == y_6.1) && (x_5.2 == y_6.2)) = true then (kr 0) else (ref02_Less x_5 y_6 (fun r7 => (if (r7 == (decide (a_2.1 ≥ 0))) = true then (kr (-1)) else (kr 1))))))
noncomputable def ref02_Cmp_o_j3 : Orc := ⟨[1, 0, 1, 1, 1], ref02_Cmp_s1, fun x Φ => ref02_Cmp_j3 x.1 x.2.1 x.2.2.1 x.2.2.2.1 (fun rt_4 => Φ (.ret (encS ref02_Cmp_s0 (rt_4, ()))))⟩
theorem ref02_Cmp_j3_eq (x : sden ref02_Cmp_s1) (Φ : Out → Prop) : ref02_Cmp_o_j3.X x Φ = run ref02_Cmp_C [] [] 4000 true [1, 0, 1, 1, 1] (encS ref02_Cmp_s1 x) Φ := by kernel_rfl
theorem ref02_Cmp_j3_ok : OrcOk ref02_Cmp_C ref02_Cmp_o_j3 := orc_of_run hm ref02_Cmp_Γ orc_nil ref02_Cmp_j3_eq
def ref02_Cmp_s2 : List Slot := [.ref 2 (.ptr 2 0), .ref 3 (.ptr 3 0), .ref 5 (.ptr 5 0), .ref 6 (.ptr 6 0), .reg 28 .bool, .box true 2 29 tFrac, .box true 3 29 tFrac, .box true 5 138 tU, .box true 6 138 tU]
def ref02_Cmp_j2 (t_28 : Bool) (a_2 : Frac) (b_3 : Frac) (x_5 : U) (y_6 : U) (kr : Int → Prop) : Prop := (if t_28 = true then (kr (-1)) else (if (decide (a_2.1 ≥ 0)) = true then (ref02_Cmp_j3 (decide (b_3.1 < 0)) a_2 x_5 y_6 kr) else (ref02_Cmp_j3 false a_2 x_5 y_6 kr)))
noncomputable def ref02_Cmp_o_j2 : Orc := ⟨[1, 0, 1, 1], ref02_Cmp_s2, fun x Φ => ref02_Cmp_j2 x.1 x.2.1 x.2.2.1 x.2.2.2.1 x.2.2.2.2.1 (fun rt_4 => Φ (.ret (encS ref02_Cmp_s0 (rt_4, ()))))⟩
theorem ref02_Cmp_j2_eq (x : sden ref02_Cmp_s2) (Φ : Out → Prop) : ref02_Cmp_o_j2.X x Φ = run ref02_Cmp_C [ref02_Cmp_o_j3] [] 4000 true [1, 0, 1, 1] (encS ref02_Cmp_s2 x) Φ := by kernel_rfl
theorem ref02_Cmp_j2_ok : OrcOk ref02_Cmp_C ref02_Cmp_o_j2 := orc_of_run hm ref02_Cmp_Γ (orc_cons ref02_Cmp_j3_ok orc_nil) ref02_Cmp_j2_eq
def ref02_Cmp (a_0 : Frac) (b_1 : Frac) (K : Int → Prop) : Prop := (ref02_Size a_0.1 (fun r1 => (ref02_Size b_1.2 (fun r2 => (ref02_Mul r1 r2 (fun r3 => (ref02_Size b_1.1 (fun r4 => (ref02_Size a_0.2 (fun r5 => (ref02_Mul r4 r5 (fun r6 => (if (decide (a_0.1 < 0)) = true then (ref02_Cmp_j2 (decide (b_1.1 ≥ 0)) a_0 b_1 r3 r6 (fun rt_4 => (K rt_4))) else (ref02_Cmp_j2 false a_0 b_1 r3 r6 (fun rt_4 => (K rt_4))))))))))))))))
noncomputable def fe_ref02_Cmp : Fe := ⟨60, [.val tFrac, .val tFrac], [], [.int .i64], false, none, fun x y K => ref02_Cmp x.1 x.2.1 (fun r => K r (()))⟩
theorem ref02_Cmp_eq (x) (y) (K) : fe_ref02_Cmp.X x y K = run ref02_Cmp_C [ref02_Cmp_o_j2] [] 4000 true [] (entry [.val tFrac, .val tFrac] [] x y) (retK Tryz.prog [.tmp 4] [] [.int .i64] K) := by kernel_rfl
theorem ok_ref02_Cmp : FeOk Tryz.prog fe_ref02_Cmp := fe_of_run (C := ref02_Cmp_C) hm ref02_Cmp_Γ (orc_cons ref02_Cmp_j2_ok orc_nil) (fn := Tryz.f60) Tryz.func60 rfl rfl (by kernel_rfl) ref02_Cmp_eq
/-! loftblock/loftblockref08.Piece -/
def ref08_Piece_s0 : List Slot := [.reg 4 (.int .i64)]
noncomputable def ref08_Piece_C : Ctx := ⟨Tryz.prog, bodyOf Tryz.f83, 25, [fe_ref02_Cmp], ref08_Piece_s0⟩
theorem ref08_Piece_Γ : ∀ e ∈ ref08_Piece_C.Γ, FeOk ref08_Piece_C.P e := (ok_cons ok_ref02_Cmp ok_nil)
def ref08_Piece_s1 : List Slot := [.reg 5 (.int .i64)]
def ref08_Piece_s2 : List Slot := [.reg 0 (.slice tPiece3), .ref 3 (.ptr 3 0), .reg 5 (.int .i64), .box true 3 29 tFrac]
def ref08_Piece_l2N (k0 : Int → Prop) : Nat → List Piece3 → Int → Frac → Prop
  | 0, _, _, _ => False
  | n + 1, c_0, k_5, t_3 => (if (decide ((wI64 (k_5 + 1)) < (len c_0))) = true then ((0 ≤ (wI64 (k_5 + 1)) ∧ (wI64 (k_5 + 1)) < len c_0) ∧ (ref02_Cmp (atPiece3 c_0 (wI64 (k_5 + 1))).1 t_3 (fun r1 => (if (decide (r1 ≤ 0)) = true then (ref08_Piece_l2N k0 n c_0 (wI64 (k_5 + 1)) t_3) else (k0 k_5))))) else (k0 k_5))
def ref08_Piece_l2 (c_0 : List Piece3) (k_5 : Int) (t_3 : Frac) (k0 : Int → Prop) : Prop := ∃ n, ref08_Piece_l2N k0 n c_0 k_5 t_3
noncomputable def ref08_Piece_n_l2 (n : Nat) : Orc := ⟨[0, 0, 0, 1, 1], ref08_Piece_s2, fun x Φ => ref08_Piece_l2N (fun k_5 => Φ (.stop [1, 1, 1] (encS ref08_Piece_s1 (k_5, ())))) n x.1 x.2.1 x.2.2.1⟩
noncomputable def ref08_Piece_o_l2 : Orc := ⟨[0, 0, 0, 1, 1], ref08_Piece_s2, fun x Φ => ref08_Piece_l2 x.1 x.2.1 x.2.2.1 (fun k_5 => Φ (.stop [1, 1, 1] (encS ref08_Piece_s1 (k_5, ()))))⟩
theorem ref08_Piece_l2_eq (n : Nat) (x : sden ref08_Piece_s2) (Φ : Out → Prop) : (ref08_Piece_n_l2 (n + 1)).X x Φ = run ref08_Piece_C [ref08_Piece_n_l2 n] [([1, 1, 1], ref08_Piece_s1)] 4000 true [0, 0, 0, 1, 1] (encS ref08_Piece_s2 x) Φ := by kernel_rfl
theorem ref08_Piece_l2_ok : OrcOk ref08_Piece_C ref08_Piece_o_l2 := orc_loop hm ref08_Piece_Γ (on := ref08_Piece_n_l2) orc_nil (fun x Φ h => h) ref08_Piece_l2_eq (fun x Φ ⟨n, h⟩ => ⟨n, x, h, rfl, rfl⟩)
def ref08_Piece (c_0 : List Piece3) (t_1 : Frac) (K : Int → Prop) : Prop := (ref08_Piece_l2 c_0 (-1) t_1 (fun k_5 => (K k_5)))
noncomputable def fe_ref08_Piece : Fe := ⟨83, [.val (.slice tPiece3), .val tFrac], [], [.int .i64], false, none, fun x y K => ref08_Piece x.1 x.2.1 (fun r => K r (()))⟩
theorem ref08_Piece_eq (x) (y) (K) : fe_ref08_Piece.X x y K = run ref08_Piece_C [ref08_Piece_o_l2] [] 4000 true [] (entry [.val (.slice tPiece3), .val tFrac] [] x y) (retK Tryz.prog [.tmp 4] [] [.int .i64] K) := by kernel_rfl
theorem ok_ref08_Piece : FeOk Tryz.prog fe_ref08_Piece := fe_of_run (C := ref08_Piece_C) hm ref08_Piece_Γ (orc_cons ref08_Piece_l2_ok orc_nil) (fn := Tryz.f83) Tryz.func83 rfl rfl (by kernel_rfl) ref08_Piece_eq
/-! loftblock/loftblockref02.Times -/
def ref02_Times_s0 : List Slot := [.ref 4 (.ptr 4 0), .box true 4 29 tFrac, .reg 5 (.int .i64)]
noncomputable def ref02_Times_C : Ctx := ⟨Tryz.prog, bodyOf Tryz.f85, 30, [fe_ref02_Size, fe_ref02_Mul, fe_ref02_Made], ref02_Times_s0⟩
theorem ref02_Times_Γ : ∀ e ∈ ref02_Times_C.Γ, FeOk ref02_Times_C.P e := (ok_cons ok_ref02_Size (ok_cons ok_ref02_Mul (ok_cons ok_ref02_Made ok_nil)))
def ref02_Times (a_0 : Frac) (b_1 : Frac) (K : (Frac × Int) → Prop) : Prop := (ref02_Size a_0.1 (fun r1 => (ref02_Size b_1.1 (fun r2 => (ref02_Mul r1 r2 (fun r3 => (ref02_Size a_0.2 (fun r4 => (ref02_Size b_1.2 (fun r5 => (ref02_Mul r4 r5 (fun r6 => (ref02_Made r3 (!((decide (a_0.1 < 0)) == (decide (b_1.1 < 0)))) r6 (fun r7 => (K (r7.1, r7.2))))))))))))))))
noncomputable def fe_ref02_Times : Fe := ⟨85, [.val tFrac, .val tFrac], [], [tFrac, .int .i64], false, none, fun x y K => ref02_Times x.1 x.2.1 (fun r => K r (()))⟩
theorem ref02_Times_eq (x) (y) (K) : fe_ref02_Times.X x y K = run ref02_Times_C [] [] 4000 true [] (entry [.val tFrac, .val tFrac] [] x y) (retK Tryz.prog [.cell 4 29, .tmp 5] [] [tFrac, .int .i64] K) := by kernel_rfl
theorem ok_ref02_Times : FeOk Tryz.prog fe_ref02_Times := fe_of_run (C := ref02_Times_C) hm ref02_Times_Γ orc_nil (fn := Tryz.f85) Tryz.func85 rfl rfl (by kernel_rfl) ref02_Times_eq
/-! loftblock/loftblockref08.Value -/
def ref08_Value_s0 : List Slot := [.ref 4 (.ptr 4 0), .box true 4 29 tFrac, .reg 5 (.int .i64)]
noncomputable def ref08_Value_C : Ctx := ⟨Tryz.prog, bodyOf Tryz.f153, 46, [fe_ref02_Times, fe_ref02_Add], ref08_Value_s0⟩
theorem ref08_Value_Γ : ∀ e ∈ ref08_Value_C.Γ, FeOk ref08_Value_C.P e := (ok_cons ok_ref02_Times (ok_cons ok_ref02_Add ok_nil))
def ref08_Value (p_0 : Piece3) (u_1 : Frac) (K : (Frac × Int) → Prop) : Prop := (ref02_Times p_0.2.2.2 u_1 (fun r1 => (if (r1.2 != 0) = true then (K ((0, 0), r1.2)) else (ref02_Add p_0.2.2.1 r1.1 (fun r2 => (if (r2.2 != 0) = true then (K ((0, 0), r2.2)) else (ref02_Times r2.1 u_1 (fun r3 => (if (r3.2 != 0) = true then (K ((0, 0), r3.2)) else (ref02_Add p_0.2.1 r3.1 (fun r4 => (K (r4.1, r4.2)))))))))))))
noncomputable def fe_ref08_Value : Fe := ⟨153, [.val tPiece3, .val tFrac], [], [tFrac, .int .i64], false, none, fun x y K => ref08_Value x.1 x.2.1 (fun r => K r (()))⟩
theorem ref08_Value_eq (x) (y) (K) : fe_ref08_Value.X x y K = run ref08_Value_C [] [] 4000 true [] (entry [.val tPiece3, .val tFrac] [] x y) (retK Tryz.prog [.cell 4 29, .tmp 5] [] [tFrac, .int .i64] K) := by kernel_rfl
theorem ok_ref08_Value : FeOk Tryz.prog fe_ref08_Value := fe_of_run (C := ref08_Value_C) hm ref08_Value_Γ orc_nil (fn := Tryz.f153) Tryz.func153 rfl rfl (by kernel_rfl) ref08_Value_eq
/-! loftblock/loftblockref08.At -/
def ref08_At_s0 : List Slot := [.ref 6 (.ptr 6 0), .box true 6 29 tFrac, .reg 7 (.int .i64)]
noncomputable def ref08_At_C : Ctx := ⟨Tryz.prog, bodyOf Tryz.f82, 38, [fe_ref02_Sub, fe_ref08_Value], ref08_At_s0⟩
theorem ref08_At_Γ : ∀ e ∈ ref08_At_C.Γ, FeOk ref08_At_C.P e := (ok_cons ok_ref02_Sub (ok_cons ok_ref08_Value ok_nil))
def ref08_At (c_0 : List Piece3) (k_1 : Int) (t_2 : Frac) (K : (Frac × Int) → Prop) : Prop := (if (decide (k_1 < 0)) = true then (((0 : Int) ≤ 0 ∧ 0 < len c_0) ∧ (K ((atPiece3 c_0 0).2.1, 0))) else ((0 ≤ k_1 ∧ k_1 < len c_0) ∧ (ref02_Sub t_2 (atPiece3 c_0 k_1).1 (fun r1 => (if (r1.2 != 0) = true then (K ((0, 0), r1.2)) else ((0 ≤ k_1 ∧ k_1 < len c_0) ∧ (ref08_Value (atPiece3 c_0 k_1) r1.1 (fun r2 => (K (r2.1, r2.2))))))))))
noncomputable def fe_ref08_At : Fe := ⟨82, [.val (.slice tPiece3), .val (.int .i64), .val tFrac], [], [tFrac, .int .i64], false, none, fun x y K => ref08_At x.1 x.2.1 x.2.2.1 (fun r => K r (()))⟩
theorem ref08_At_eq (x) (y) (K) : fe_ref08_At.X x y K = run ref08_At_C [] [] 4000 true [] (entry [.val (.slice tPiece3), .val (.int .i64), .val tFrac] [] x y) (retK Tryz.prog [.cell 6 29, .tmp 7] [] [tFrac, .int .i64] K) := by kernel_rfl
theorem ok_ref08_At : FeOk Tryz.prog fe_ref08_At := fe_of_run (C := ref08_At_C) hm ref08_At_Γ orc_nil (fn := Tryz.f82) Tryz.func82 rfl rfl (by kernel_rfl) ref08_At_eq
/-! loftblock/loftblockref35.At -/
def ref35_At_s0 : List Slot := [.ref 6 (.ptr 6 0), .box true 6 29 tFrac, .reg 7 (.int .i64)]
noncomputable def ref35_At_C : Ctx := ⟨Tryz.prog, bodyOf Tryz.f20, 20, [fe_ref35_Path, fe_ref08_Piece, fe_ref08_At], ref35_At_s0⟩
theorem ref35_At_Γ : ∀ e ∈ ref35_At_C.Γ, FeOk ref35_At_C.P e := (ok_cons ok_ref35_Path (ok_cons ok_ref08_Piece (ok_cons ok_ref08_At ok_nil)))
def ref35_At (from_0 : Int) (m_1 : Move) (t_2 : Frac) (K : (Frac × Int) → Prop) : Prop := (ref35_Path from_0 m_1 (fun r1 => (ref08_Piece r1 t_2 (fun r2 => (ref08_At r1 r2 t_2 (fun r3 => (K (r3.1, r3.2))))))))
noncomputable def fe_ref35_At : Fe := ⟨20, [.val (.int .i64), .val tMove, .val tFrac], [], [tFrac, .int .i64], false, none, fun x y K => ref35_At x.1 x.2.1 x.2.2.1 (fun r => K r (()))⟩
theorem ref35_At_eq (x) (y) (K) : fe_ref35_At.X x y K = run ref35_At_C [] [] 4000 true [] (entry [.val (.int .i64), .val tMove, .val tFrac] [] x y) (retK Tryz.prog [.cell 6 29, .tmp 7] [] [tFrac, .int .i64] K) := by kernel_rfl
theorem ok_ref35_At : FeOk Tryz.prog fe_ref35_At := fe_of_run (C := ref35_At_C) hm ref35_At_Γ orc_nil (fn := Tryz.f20) Tryz.func20 rfl rfl (by kernel_rfl) ref35_At_eq
/-! loftblock/loftblockref08.Rate -/
def ref08_Rate_s0 : List Slot := [.ref 4 (.ptr 4 0), .box true 4 29 tFrac, .reg 5 (.int .i64)]
noncomputable def ref08_Rate_C : Ctx := ⟨Tryz.prog, bodyOf Tryz.f154, 35, [fe_ref02_Times, fe_ref02_Of, fe_ref02_Add], ref08_Rate_s0⟩
theorem ref08_Rate_Γ : ∀ e ∈ ref08_Rate_C.Γ, FeOk ref08_Rate_C.P e := (ok_cons ok_ref02_Times (ok_cons ok_ref02_Of (ok_cons ok_ref02_Add ok_nil)))
def ref08_Rate (p_0 : Piece3) (u_1 : Frac) (K : (Frac × Int) → Prop) : Prop := (ref02_Times p_0.2.2.2 u_1 (fun r1 => (if (r1.2 != 0) = true then (K ((0, 0), r1.2)) else (ref02_Of 2 (fun r2 => (ref02_Times r2 r1.1 (fun r3 => (if (r3.2 != 0) = true then (K ((0, 0), r3.2)) else (ref02_Add p_0.2.2.1 r3.1 (fun r4 => (K (r4.1, r4.2))))))))))))
noncomputable def fe_ref08_Rate : Fe := ⟨154, [.val tPiece3, .val tFrac], [], [tFrac, .int .i64], false, none, fun x y K => ref08_Rate x.1 x.2.1 (fun r => K r (()))⟩
theorem ref08_Rate_eq (x) (y) (K) : fe_ref08_Rate.X x y K = run ref08_Rate_C [] [] 4000 true [] (entry [.val tPiece3, .val tFrac] [] x y) (retK Tryz.prog [.cell 4 29, .tmp 5] [] [tFrac, .int .i64] K) := by kernel_rfl
theorem ok_ref08_Rate : FeOk Tryz.prog fe_ref08_Rate := fe_of_run (C := ref08_Rate_C) hm ref08_Rate_Γ orc_nil (fn := Tryz.f154) Tryz.func154 rfl rfl (by kernel_rfl) ref08_Rate_eq
/-! loftblock/loftblockref08.Slope -/
def ref08_Slope_s0 : List Slot := [.ref 6 (.ptr 6 0), .box true 6 29 tFrac, .reg 7 (.int .i64)]
noncomputable def ref08_Slope_C : Ctx := ⟨Tryz.prog, bodyOf Tryz.f84, 35, [fe_ref02_Of, fe_ref02_Sub, fe_ref08_Rate], ref08_Slope_s0⟩
theorem ref08_Slope_Γ : ∀ e ∈ ref08_Slope_C.Γ, FeOk ref08_Slope_C.P e := (ok_cons ok_ref02_Of (ok_cons ok_ref02_Sub (ok_cons ok_ref08_Rate ok_nil)))
def ref08_Slope (c_0 : List Piece3) (k_1 : Int) (t_2 : Frac) (K : (Frac × Int) → Prop) : Prop := (if (decide (k_1 < 0)) = true then (ref02_Of 0 (fun r1 => (K (r1, 0)))) else ((0 ≤ k_1 ∧ k_1 < len c_0) ∧ (ref02_Sub t_2 (atPiece3 c_0 k_1).1 (fun r2 => (if (r2.2 != 0) = true then (K ((0, 0), r2.2)) else ((0 ≤ k_1 ∧ k_1 < len c_0) ∧ (ref08_Rate (atPiece3 c_0 k_1) r2.1 (fun r3 => (K (r3.1, r3.2))))))))))
noncomputable def fe_ref08_Slope : Fe := ⟨84, [.val (.slice tPiece3), .val (.int .i64), .val tFrac], [], [tFrac, .int .i64], false, none, fun x y K => ref08_Slope x.1 x.2.1 x.2.2.1 (fun r => K r (()))⟩
theorem ref08_Slope_eq (x) (y) (K) : fe_ref08_Slope.X x y K = run ref08_Slope_C [] [] 4000 true [] (entry [.val (.slice tPiece3), .val (.int .i64), .val tFrac] [] x y) (retK Tryz.prog [.cell 6 29, .tmp 7] [] [tFrac, .int .i64] K) := by kernel_rfl
theorem ok_ref08_Slope : FeOk Tryz.prog fe_ref08_Slope := fe_of_run (C := ref08_Slope_C) hm ref08_Slope_Γ orc_nil (fn := Tryz.f84) Tryz.func84 rfl rfl (by kernel_rfl) ref08_Slope_eq
/-! loftblock/loftblockref02.Over -/
def ref02_Over_s0 : List Slot := [.ref 4 (.ptr 4 0), .box true 4 29 tFrac, .reg 5 (.int .i64)]
noncomputable def ref02_Over_C : Ctx := ⟨Tryz.prog, bodyOf Tryz.f86, 30, [fe_ref02_Size, fe_ref02_Mul, fe_ref02_Made], ref02_Over_s0⟩
theorem ref02_Over_Γ : ∀ e ∈ ref02_Over_C.Γ, FeOk ref02_Over_C.P e := (ok_cons ok_ref02_Size (ok_cons ok_ref02_Mul (ok_cons ok_ref02_Made ok_nil)))
def ref02_Over (a_0 : Frac) (b_1 : Frac) (K : (Frac × Int) → Prop) : Prop := (ref02_Size a_0.1 (fun r1 => (ref02_Size b_1.2 (fun r2 => (ref02_Mul r1 r2 (fun r3 => (ref02_Size a_0.2 (fun r4 => (ref02_Size b_1.1 (fun r5 => (ref02_Mul r4 r5 (fun r6 => (ref02_Made r3 (!((decide (a_0.1 < 0)) == (decide (b_1.1 < 0)))) r6 (fun r7 => (K (r7.1, r7.2))))))))))))))))
noncomputable def fe_ref02_Over : Fe := ⟨86, [.val tFrac, .val tFrac], [], [tFrac, .int .i64], false, none, fun x y K => ref02_Over x.1 x.2.1 (fun r => K r (()))⟩
theorem ref02_Over_eq (x) (y) (K) : fe_ref02_Over.X x y K = run ref02_Over_C [] [] 4000 true [] (entry [.val tFrac, .val tFrac] [] x y) (retK Tryz.prog [.cell 4 29, .tmp 5] [] [tFrac, .int .i64] K) := by kernel_rfl
theorem ok_ref02_Over : FeOk Tryz.prog fe_ref02_Over := fe_of_run (C := ref02_Over_C) hm ref02_Over_Γ orc_nil (fn := Tryz.f86) Tryz.func86 rfl rfl (by kernel_rfl) ref02_Over_eq
/-! loftblock/loftblockref35.Halted -/
def ref35_Halted_s0 : List Slot := [.ref 6 (.ptr 6 0), .box true 6 29 tFrac, .reg 7 (.int .i64)]
noncomputable def ref35_Halted_C : Ctx := ⟨Tryz.prog, bodyOf Tryz.f21, 76, [fe_ref35_Path, fe_ref35_At, fe_ref08_Piece, fe_ref08_Slope, fe_ref02_Times, fe_ref02_Of, fe_ref02_Over, fe_ref02_Add, fe_ref02_Sub], ref35_Halted_s0⟩
theorem ref35_Halted_Γ : ∀ e ∈ ref35_Halted_C.Γ, FeOk ref35_Halted_C.P e := (ok_cons ok_ref35_Path (ok_cons ok_ref35_At (ok_cons ok_ref08_Piece (ok_cons ok_ref08_Slope (ok_cons ok_ref02_Times (ok_cons ok_ref02_Of (ok_cons ok_ref02_Over (ok_cons ok_ref02_Add (ok_cons ok_ref02_Sub ok_nil)))))))))
def ref35_Halted (from_0 : Int) (m_1 : Move) (t_2 : Frac) (K : (Frac × Int) → Prop) : Prop := (ref35_Path from_0 m_1 (fun r1 => (ref35_At from_0 m_1 t_2 (fun r2 => (if (r2.2 != 0) = true then (K ((0, 0), r2.2)) else (ref08_Piece r1 t_2 (fun r3 => (ref08_Slope r1 r3 t_2 (fun r4 => (if (r4.2 != 0) = true then (K ((0, 0), r4.2)) else (ref02_Times r4.1 r4.1 (fun r5 => (if (r5.2 != 0) = true then (K ((0, 0), r5.2)) else (ref02_Of (wI64 (2 * m_1.2.2.2.2)) (fun r6 => (ref02_Over r5.1 r6 (fun r7 => (if (r7.2 != 0) = true then (K ((0, 0), r7.2)) else (if (decide (m_1.2.1 > from_0)) = true then (ref02_Add r2.1 r7.1 (fun r8 => (K (r8.1, r8.2)))) else (ref02_Sub r2.1 r7.1 (fun r9 => (K (r9.1, r9.2)))))))))))))))))))))))
noncomputable def fe_ref35_Halted : Fe := ⟨21, [.val (.int .i64), .val tMove, .val tFrac], [], [tFrac, .int .i64], false, none, fun x y K => ref35_Halted x.1 x.2.1 x.2.2.1 (fun r => K r (()))⟩
theorem ref35_Halted_eq (x) (y) (K) : fe_ref35_Halted.X x y K = run ref35_Halted_C [] [] 4000 true [] (entry [.val (.int .i64), .val tMove, .val tFrac] [] x y) (retK Tryz.prog [.cell 6 29, .tmp 7] [] [tFrac, .int .i64] K) := by kernel_rfl
theorem ok_ref35_Halted : FeOk Tryz.prog fe_ref35_Halted := fe_of_run (C := ref35_Halted_C) hm ref35_Halted_Γ orc_nil (fn := Tryz.f21) Tryz.func21 rfl rfl (by kernel_rfl) ref35_Halted_eq
end Go.Proofs.YtieeiiibamkbmaaGreat.Am
