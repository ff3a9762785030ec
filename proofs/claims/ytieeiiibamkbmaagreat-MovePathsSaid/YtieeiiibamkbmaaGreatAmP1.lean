/- Plain laws of whole numbers and of the program's exact fractions. Conditions: the bounds that each names. -/
import Derived.Test.YtieeiiibamkbmaaGreatAmX4
import Derived.IntWalk
namespace Go.Proofs.YtieeiiibamkbmaaGreat.Am
open Go
set_option linter.unusedVariables false
set_option linter.unusedSimpArgs false

abbrev M64 : Int := 18446744073709551616
abbrev M32 : Int := 4294967296
abbrev Mx : Int := 1152921504606846976
def IsU (x : Int) : Prop := 0 ≤ x ∧ x < 18446744073709551616
def IsI (x : Int) : Prop := -9223372036854775808 ≤ x ∧ x < 9223372036854775808
theorem wI_id {x : Int} (h : -9223372036854775808 ≤ x) (h' : x < 9223372036854775808) : wI64 x = x := IntWalk.i64_in x (by omega)
theorem wU_id {x : Int} (h : 0 ≤ x) (h' : x < 18446744073709551616) : wU64 x = x := IntWalk.u64_in x (by omega)
theorem wU_mod (x : Int) : wU64 x = x % 18446744073709551616 := by
  show IntKind.u64.wrap x = _
  rw [IntKind.wrap_u64]
theorem wI_eq (x : Int) : wI64 x = (x + 9223372036854775808) % 18446744073709551616 - 9223372036854775808 := by
  show IntKind.i64.wrap x = _
  rw [IntKind.wrap_i64]
theorem p32 : (2 : Int) ^ 32 = 4294967296 := by decide
theorem fdiv32 (x : Int) : Int.fdiv x (2 ^ 32) = x / 4294967296 := by
  rw [p32, Int.fdiv_eq_ediv_of_nonneg _ (by omega)]
theorem tdiv_nn {x y : Int} (h : 0 ≤ x) : Int.tdiv x y = x / y := Int.tdiv_eq_ediv_of_nonneg h
theorem tmod_nn {x y : Int} (h : 0 ≤ x) : Int.tmod x y = x % y := Int.tmod_eq_emod_of_nonneg h
theorem ofInt_nat {x : Int} (h : 0 ≤ x) (h' : x < 18446744073709551616) : (BitVec.ofInt 64 x).toNat = x.toNat := by
  rw [BitVec.toNat_ofInt]
  have : x % ((2 ^ 64 : Nat) : Int) = x := Int.emod_eq_of_lt h (by simpa using h')
  rw [this]
theorem and32 {x : Int} (h : 0 ≤ x) (h' : x < 18446744073709551616) : bAnd .u64 x 4294967295 = x % 4294967296 := by
  show IntKind.u64.wrap _ = _
  have e : (BitVec.ofInt 64 x &&& BitVec.ofInt 64 4294967295).toNat = x.toNat % 2 ^ 32 := by
    rw [BitVec.toNat_and, ofInt_nat h h']
    exact Nat.and_two_pow_sub_one_eq_mod x.toNat 32
  show IntKind.u64.wrap (((BitVec.ofInt 64 x &&& BitVec.ofInt 64 4294967295).toNat : Nat) : Int) = _
  rw [e]
  have : ((x.toNat % 2 ^ 32 : Nat) : Int) = x % 4294967296 := by omega
  rw [this]
  exact IntWalk.u64_in _ (by omega)
theorem mulb {a b M N : Int} (ha : 0 ≤ a) (ha' : a ≤ M) (hb : 0 ≤ b) (hb' : b ≤ N) : 0 ≤ a * b ∧ a * b ≤ M * N :=
  ⟨Int.mul_nonneg ha hb, Int.mul_le_mul ha' hb' hb (by omega)⟩
theorem hi_lo {x y : Int} (hx : IsU x) (hy : IsU y) : ∃ a b c d : Int, x * y = a * 18446744073709551616 + (b + c) * 4294967296 + d ∧
    a = (x / 4294967296) * (y / 4294967296) ∧ b = (x / 4294967296) * (y % 4294967296) ∧ c = (x % 4294967296) * (y / 4294967296) ∧ d = (x % 4294967296) * (y % 4294967296) ∧
    (0 ≤ a ∧ a ≤ 4294967295 * 4294967295) ∧ (0 ≤ b ∧ b ≤ 4294967295 * 4294967295) ∧ (0 ≤ c ∧ c ≤ 4294967295 * 4294967295) ∧ (0 ≤ d ∧ d ≤ 4294967295 * 4294967295) := by
  obtain ⟨h1, h2⟩ := hx
  obtain ⟨h3, h4⟩ := hy
  refine ⟨_, _, _, _, ?_, rfl, rfl, rfl, rfl, mulb (by omega) (by omega) (by omega) (by omega), mulb (by omega) (by omega) (by omega) (by omega), mulb (by omega) (by omega) (by omega) (by omega), mulb (by omega) (by omega) (by omega) (by omega)⟩
  have ex : x = (x / 4294967296) * 4294967296 + x % 4294967296 := by omega
  have ey : y = (y / 4294967296) * 4294967296 + y % 4294967296 := by omega
  generalize x / 4294967296 = a at *
  generalize x % 4294967296 = b at *
  generalize y / 4294967296 = c at *
  generalize y % 4294967296 = d at *
  subst ex ey
  grind
theorem mul64_ok {x y : Int} (hx : IsU x) (hy : IsU y) {K : U → Prop} (h : K (x * y / 18446744073709551616, x * y % 18446744073709551616)) : bits_Mul64 x y K := by
  unfold bits_Mul64
  simp only [fdiv32, and32 hx.1 hx.2, and32 hy.1 hy.2]
  obtain ⟨a, b, c, d, e, ea, eb, ec, ed, ha, hb, hc, hd⟩ := hi_lo hx hy
  rw [← ea, ← eb, ← ec, ← ed]
  have wa := wU_id (x := a) (by omega) (by omega)
  have wb := wU_id (x := b) (by omega) (by omega)
  have wc := wU_id (x := c) (by omega) (by omega)
  have wd := wU_id (x := d) (by omega) (by omega)
  rw [wa, wb, wc, wd]
  have w1 := wU_id (x := b + d / 4294967296) (by omega) (by omega)
  rw [w1, and32 (by omega) (by omega)]
  have w2 := wU_id (x := (b + d / 4294967296) % 4294967296 + c) (by omega) (by omega)
  rw [w2]
  have w3 := wU_id (x := a + (b + d / 4294967296) / 4294967296) (by omega) (by omega)
  rw [w3]
  have w4 := wU_id (x := a + (b + d / 4294967296) / 4294967296 + ((b + d / 4294967296) % 4294967296 + c) / 4294967296) (by omega) (by omega)
  rw [w4, wU_mod]
  have : a + (b + d / 4294967296) / 4294967296 + ((b + d / 4294967296) % 4294967296 + c) / 4294967296 = x * y / 18446744073709551616 := by
    rw [e]; omega
  rw [this]
  exact h
theorem ref_mul_ok {x y : Int} (hx : IsU x) (hy : IsU y) {K : U → Prop} (h : K (x * y / 18446744073709551616, x * y % 18446744073709551616)) : ref02_Mul x y K := by
  unfold ref02_Mul
  simp only [fdiv32, and32 hx.1 hx.2, and32 hy.1 hy.2]
  obtain ⟨a, b, c, d, e, ea, eb, ec, ed, ha, hb, hc, hd⟩ := hi_lo hx hy
  rw [← ea, ← eb, ← ec, ← ed]
  have wa := wU_id (x := a) (by omega) (by omega)
  have wb := wU_id (x := b) (by omega) (by omega)
  have wc := wU_id (x := c) (by omega) (by omega)
  have wd := wU_id (x := d) (by omega) (by omega)
  rw [wa, wb, wc, wd]
  have w1 := wU_id (x := b + d / 4294967296) (by omega) (by omega)
  rw [w1, and32 (x := b + d / 4294967296) (by omega) (by omega), and32 (x := d) (by omega) (by omega)]
  have w2 := wU_id (x := c + (b + d / 4294967296) % 4294967296) (by omega) (by omega)
  rw [w2]
  have w3 := wU_id (x := a + (b + d / 4294967296) / 4294967296) (by omega) (by omega)
  rw [w3]
  have w4 := wU_id (x := a + (b + d / 4294967296) / 4294967296 + (c + (b + d / 4294967296) % 4294967296) / 4294967296) (by omega) (by omega)
  rw [w4, p32, wU_mod ((c + (b + d / 4294967296) % 4294967296) * 4294967296), wU_mod]
  have e1 : a + (b + d / 4294967296) / 4294967296 + (c + (b + d / 4294967296) % 4294967296) / 4294967296 = x * y / 18446744073709551616 := by
    rw [e]; omega
  have e2 : ((c + (b + d / 4294967296) % 4294967296) * 4294967296 % 18446744073709551616 + d % 4294967296) % 18446744073709551616 = x * y % 18446744073709551616 := by
    rw [e]; omega
  rw [e1, e2]
  exact h
/-! A number of two words. -/
def v2 (u : U) : Int := u.1 * 18446744073709551616 + u.2
def IsUU (u : U) : Prop := IsU u.1 ∧ IsU u.2
/-- The two words of a number. -/
def uu (n : Int) : U := (n / 18446744073709551616, n % 18446744073709551616)
theorem uu_v2 {n : Int} (h : 0 ≤ n) (h' : n < 18446744073709551616 * 18446744073709551616) : v2 (uu n) = n ∧ IsUU (uu n) := by
  refine ⟨?_, ⟨?_, ?_⟩, ?_, ?_⟩ <;> simp only [v2, uu] <;> omega
theorem v2_uu {u : U} (h : IsUU u) : uu (v2 u) = u := by
  obtain ⟨⟨h1, h2⟩, h3, h4⟩ := h
  simp only [uu, v2]
  have e1 : (u.1 * 18446744073709551616 + u.2) / 18446744073709551616 = u.1 := by omega
  have e2 : (u.1 * 18446744073709551616 + u.2) % 18446744073709551616 = u.2 := by omega
  rw [e1, e2]
theorem mul_lt {x y : Int} (hx : IsU x) (hy : IsU y) : 0 ≤ x * y ∧ x * y ≤ 18446744073709551615 * 18446744073709551615 := by
  obtain ⟨h1, h2⟩ := hx
  obtain ⟨h3, h4⟩ := hy
  exact mulb h1 (by omega) h3 (by omega)
theorem product_ok {x y : Int} (hx : IsU x) (hy : IsU y) {K : U → Prop} (h : K (uu (x * y))) : ratio_product x y K := mul64_ok hx hy h
theorem rmul_ok {x y : Int} (hx : IsU x) (hy : IsU y) {K : U → Prop} (h : K (uu (x * y))) : ref02_Mul x y K := ref_mul_ok hx hy h
theorem plus_ok {x y : Int} (hx : 0 ≤ x) (hy : 0 ≤ y) (hs : x + y < 18446744073709551616 * 18446744073709551616) {K : U → Prop} (h : K (uu (x + y))) : ratio_plus (uu x) (uu y) K := by
  unfold ratio_plus bits_Add64
  simp only [uu]
  refine ⟨⟨by omega, by omega, by omega, by omega⟩, ⟨by omega, by omega, by omega, by omega⟩, ?_⟩
  have e1 : (x / 18446744073709551616 + y / 18446744073709551616 + (x % 18446744073709551616 + y % 18446744073709551616 + 0) / 18446744073709551616) % 18446744073709551616 = (x + y) / 18446744073709551616 := by omega
  have e2 : (x % 18446744073709551616 + y % 18446744073709551616 + 0) % 18446744073709551616 = (x + y) % 18446744073709551616 := by omega
  rw [e1, e2]
  exact h
theorem minus_ok {x y : Int} (hx : x < 18446744073709551616 * 18446744073709551616) (hy : 0 ≤ y) (hs : y ≤ x) {K : U → Prop} (h : K (uu (x - y))) : ratio_minus (uu x) (uu y) K := by
  unfold ratio_minus bits_Sub64
  refine ⟨⟨by simp only [uu]; omega, by simp only [uu]; omega, by simp only [uu]; omega, by omega, by omega⟩, ?_⟩
  by_cases hc : (uu x).2 - (uu y).2 - 0 < 0
  · simp only [if_pos hc]
    simp only [uu] at hc ⊢
    refine ⟨⟨by omega, by omega, by omega, by omega, by omega⟩, ?_⟩
    have e1 : (x / 18446744073709551616 - y / 18446744073709551616 - 1) % 18446744073709551616 = (x - y) / 18446744073709551616 := by omega
    have e2 : (x % 18446744073709551616 - y % 18446744073709551616 - 0) % 18446744073709551616 = (x - y) % 18446744073709551616 := by omega
    rw [e1, e2]
    exact h
  · simp only [if_neg hc]
    simp only [uu] at hc ⊢
    refine ⟨⟨by omega, by omega, by omega, by omega, by omega⟩, ?_⟩
    have e1 : (x / 18446744073709551616 - y / 18446744073709551616 - 0) % 18446744073709551616 = (x - y) / 18446744073709551616 := by omega
    have e2 : (x % 18446744073709551616 - y % 18446744073709551616 - 0) % 18446744073709551616 = (x - y) % 18446744073709551616 := by omega
    rw [e1, e2]
    exact h
theorem less_ok {x y : Int} {K : Bool → Prop} (h : K (decide (x < y))) : ratio_less (uu x) (uu y) K := by
  unfold ratio_less
  by_cases h1 : (uu x).1 < (uu y).1
  · rw [if_pos (by simpa using h1)]
    simp only [uu] at h1
    rw [show decide (x < y) = true from by simp; omega] at h
    exact h
  · rw [if_neg (by simpa using h1)]
    by_cases h2 : (uu x).1 = (uu y).1
    · rw [if_pos (by simpa using h2)]
      simp only [uu] at h1 h2
      have : decide (x < y) = decide ((uu x).2 < (uu y).2) := by rw [decide_eq_decide]; simp only [uu]; omega
      rw [this] at h
      exact h
    · rw [if_neg (by simpa using h2)]
      simp only [uu] at h1 h2
      rw [show decide (x < y) = false from by simp; omega] at h
      exact h
/-! Sizes and the greatest common divisor. -/
theorem size_ok {n : Int} (hn : IsI n) {K : Int → Prop} (h : K (n.natAbs : Int)) : ratio_size n K := by
  obtain ⟨h1, h2⟩ := hn
  unfold ratio_size
  by_cases hc : n < 0
  · rw [if_pos (by simpa using hc)]
    have : wU64 (0 - wU64 n) = (n.natAbs : Int) := by rw [wU_mod, wU_mod]; omega
    rw [this]; exact h
  · rw [if_neg (by simpa using hc)]
    have : wU64 n = (n.natAbs : Int) := by rw [wU_mod]; omega
    rw [this]; exact h
theorem gcdN_ok {k0 : Int → Prop} : ∀ (b a : Nat), k0 ((Nat.gcd a b : Nat) : Int) → ∃ n, ratio_gcd_l2N k0 n (a : Int) (b : Int) := by
  intro b
  induction b using Nat.strongRecOn with
  | _ b ih =>
    intro a h
    by_cases hb : b = 0
    · subst hb
      refine ⟨1, ?_⟩
      unfold ratio_gcd_l2N
      simpa using h
    · obtain ⟨n, hn⟩ := ih (a % b) (Nat.mod_lt _ (by omega)) b (by rw [Nat.gcd_comm b, ← Nat.gcd_rec, Nat.gcd_comm]; exact h)
      refine ⟨n + 1, ?_⟩
      unfold ratio_gcd_l2N
      have hb' : ((b : Int) != 0) = true := by simpa using hb
      have hb'' : ¬ (b : Int) = 0 := by simpa using hb
      rw [if_pos hb', if_neg hb'', tmod_nn (by omega)]
      rw [show (a : Int) % (b : Int) = ((a % b : Nat) : Int) by omega]
      exact hn
theorem gcd_ok {a b : Int} (ha : 0 ≤ a) (hb : 0 ≤ b) {K : Int → Prop} (h : K ((Int.gcd a b : Nat) : Int)) : ratio_gcd a b K := by
  unfold ratio_gcd ratio_gcd_l2
  obtain ⟨x, rfl⟩ := Int.eq_ofNat_of_zero_le ha
  obtain ⟨y, rfl⟩ := Int.eq_ofNat_of_zero_le hb
  exact gcdN_ok y x (by simpa [Int.gcd] using h)
end Go.Proofs.YtieeiiibamkbmaaGreat.Am
namespace Go.Proofs.YtieeiiibamkbmaaGreat.Am
open Go
set_option linter.unusedVariables false
set_option linter.unusedSimpArgs false

/-- What is known at a round of the division's loops. -/
structure Kn (Y yn1 yn0 A u q r : Int) : Prop where
  fy : Y = yn1 * 4294967296 + yn0
  fy1 : 2147483648 ≤ yn1 ∧ yn1 < 4294967296
  fy0 : 0 ≤ yn0 ∧ yn0 < 4294967296
  fu : 0 ≤ u ∧ u < 4294967296
  fa : 0 ≤ A ∧ A < Y
  fq0 : (A * 4294967296 + u) / Y ≤ q
  fq1 : q ≤ 4294967297
  fr : r = A - q * yn1
  fr0 : 0 ≤ r ∧ r < 4294967296
theorem Kn.pos {Y yn1 yn0 A u q r : Int} (k : Kn Y yn1 yn0 A u q r) : 0 < Y := by have := k.fy; have := k.fy1; have := k.fy0; omega
theorem Kn.rest {Y yn1 yn0 A u q r : Int} (k : Kn Y yn1 yn0 A u q r) : A * 4294967296 + u - q * Y = r * 4294967296 + u - q * yn0 := by
  have h1 := k.fy
  have h2 := k.fr
  subst h1 h2
  grind
theorem Kn.lt {Y yn1 yn0 A u q r : Int} (k : Kn Y yn1 yn0 A u q r) : (A * 4294967296 + u) / Y < 4294967296 := by
  have hp := k.pos
  have ha := k.fa
  have hu := k.fu
  rw [Int.ediv_lt_iff_lt_mul hp]
  omega
theorem Kn.nn {Y yn1 yn0 A u q r : Int} (k : Kn Y yn1 yn0 A u q r) : 0 ≤ (A * 4294967296 + u) / Y := by
  have hp := k.pos
  have ha := k.fa
  have hu := k.fu
  exact Int.ediv_nonneg (by omega) (by omega)
theorem Kn.test {Y yn1 yn0 A u q r : Int} (k : Kn Y yn1 yn0 A u q r) : (q * yn0 > 4294967296 * r + u) ↔ (A * 4294967296 + u) / Y < q := by
  rw [Int.ediv_lt_iff_lt_mul k.pos]
  have := k.rest
  omega
theorem Kn.next {Y yn1 yn0 A u q r : Int} (k : Kn Y yn1 yn0 A u q r) (h : (A * 4294967296 + u) / Y < q) (hr : r + yn1 < 4294967296) : Kn Y yn1 yn0 A u (q - 1) (r + yn1) := by
  have hy1 := k.fy1
  have hr0 := k.fr0
  refine ⟨k.fy, k.fy1, k.fy0, k.fu, k.fa, by omega, by have := k.fq1; omega, ?_, by omega, by omega⟩
  have := k.fr
  subst this
  grind
theorem Kn.last {Y yn1 yn0 A u q r : Int} (k : Kn Y yn1 yn0 A u q r) (h : (A * 4294967296 + u) / Y < q) (hr : 4294967296 ≤ r + yn1) : q - 1 = (A * 4294967296 + u) / Y := by
  have hy0 := k.fy0
  have hq1 := k.fq1
  have hnn := k.nn
  have hb := mulb (a := q - 1) (b := yn0) (M := 4294967296) (N := 4294967295) (by omega) (by omega) (by omega) (by omega)
  have hrest := k.rest
  have hu := k.fu
  have hpos := k.pos
  have e : (q - 1) * yn0 = q * yn0 - yn0 := by grind
  have e2 : (q - 1) * Y = q * Y - Y := by grind
  have e3 := k.fy
  have : (q - 1) * Y ≤ A * 4294967296 + u := by rw [e2]; omega
  have h2 : q - 1 ≤ (A * 4294967296 + u) / Y := (Int.le_ediv_iff_mul_le hpos).2 this
  omega
theorem Kn.small {Y yn1 yn0 A u q r : Int} (k : Kn Y yn1 yn0 A u q r) (h : q < 4294967296) : 0 ≤ q * yn0 ∧ q * yn0 < 18446744073709551616 := by
  have hnn := k.nn
  have hq0 := k.fq0
  have hy0 := k.fy0
  have := mulb (a := q) (b := yn0) (M := 4294967295) (N := 4294967295) (by omega) (by omega) (by omega) (by omega)
  omega
theorem l2_ok {Y s yn1 yn0 A u un0 : Int} {k0 : Int → Int → Int → Int → Int → Int → Int → Int → Prop} : ∀ (m : Nat) (q r : Int), (q - (A * 4294967296 + u) / Y).toNat ≤ m → Kn Y yn1 yn0 A u q r → k0 Y s yn1 yn0 A u un0 ((A * 4294967296 + u) / Y) →
    ∃ n, bits_Div64_l2N k0 n Y s yn1 yn0 A u un0 q r := by
  intro m
  induction m with
  | zero =>
    intro q r hm k h
    have hq : q = (A * 4294967296 + u) / Y := by have := k.fq0; omega
    have hlt := k.lt
    refine ⟨1, ?_⟩
    unfold bits_Div64_l2N
    rw [if_neg (by simp; omega)]
    have hs := k.small (by omega)
    have hr0 := k.fr0
    have hu := k.fu
    have htest := k.test
    rw [wU_id hs.1 hs.2, wU_id (x := 4294967296 * r) (by omega) (by omega), wU_id (x := 4294967296 * r + u) (by omega) (by omega)]
    have : decide (q * yn0 > 4294967296 * r + u) = false := by simp only [decide_eq_false_iff_not]; rw [htest]; omega
    rw [this]
    unfold bits_Div64_j3
    rw [if_neg (by simp), hq]
    exact h
  | succ m ih =>
    intro q r hm k h
    have hlt := k.lt
    have hnn := k.nn
    have hr0 := k.fr0
    have hu := k.fu
    have hy1 := k.fy1
    by_cases hq : q = (A * 4294967296 + u) / Y
    · refine ⟨1, ?_⟩
      unfold bits_Div64_l2N
      rw [if_neg (by simp; omega)]
      have hs := k.small (by omega)
      have htest := k.test
      rw [wU_id hs.1 hs.2, wU_id (x := 4294967296 * r) (by omega) (by omega), wU_id (x := 4294967296 * r + u) (by omega) (by omega)]
      have : decide (q * yn0 > 4294967296 * r + u) = false := by simp only [decide_eq_false_iff_not]; rw [htest]; omega
      rw [this]
      unfold bits_Div64_j3
      rw [if_neg (by simp), hq]
      exact h
    · have hgt : (A * 4294967296 + u) / Y < q := by have := k.fq0; omega
      have hq1 := k.fq1
      have step : ∃ n, bits_Div64_j3 Y s yn1 yn0 A u un0 q r true (fun y_2 s_8 yn1_9 yn0_10 un32_11 un1_13 un0_14 q1_15 => (k0 y_2 s_8 yn1_9 yn0_10 un32_11 un1_13 un0_14 q1_15)) (fun y_2 s_8 yn1_9 yn0_10 un32_11 un1_13 un0_14 q1_15 rhat_16 => (bits_Div64_l2N k0 n y_2 s_8 yn1_9 yn0_10 un32_11 un1_13 un0_14 q1_15 rhat_16)) := by
        unfold bits_Div64_j3
        simp only [if_true]
        rw [wU_id (x := r + yn1) (by omega) (by omega), wU_id (x := q - 1) (by omega) (by omega)]
        by_cases hr : r + yn1 ≥ 4294967296
        · refine ⟨0, ?_⟩
          rw [if_pos (by simpa using hr), k.last hgt hr]
          exact h
        · obtain ⟨n, hn⟩ := ih (q - 1) (r + yn1) (by omega) (k.next hgt (by omega)) h
          refine ⟨n, ?_⟩
          rw [if_neg (by simp; omega)]
          exact hn
      obtain ⟨n, hn⟩ := step
      refine ⟨n + 1, ?_⟩
      unfold bits_Div64_l2N
      by_cases hb : q ≥ 4294967296
      · rw [if_pos (by simpa using hb)]
        exact hn
      · rw [if_neg (by simp; omega)]
        have hs := k.small (by omega)
        have htest := k.test
        rw [wU_id hs.1 hs.2, wU_id (x := 4294967296 * r) (by omega) (by omega), wU_id (x := 4294967296 * r + u) (by omega) (by omega)]
        have : decide (q * yn0 > 4294967296 * r + u) = true := by simp only [decide_eq_true_eq]; rw [htest]; omega
        rw [this]
        exact hn
theorem l4_ok {Y s yn1 yn0 A u q1 : Int} {k0 : Int → Int → Int → Int → Int → Int → Prop} : ∀ (m : Nat) (q r : Int), (q - (A * 4294967296 + u) / Y).toNat ≤ m → Kn Y yn1 yn0 A u q r → k0 Y s u q1 A ((A * 4294967296 + u) / Y) →
    ∃ n, bits_Div64_l4N k0 n Y s yn1 yn0 u q1 r A q := by
  intro m
  induction m with
  | zero =>
    intro q r hm k h
    have hq : q = (A * 4294967296 + u) / Y := by have := k.fq0; omega
    have hlt := k.lt
    refine ⟨1, ?_⟩
    unfold bits_Div64_l4N
    rw [if_neg (by simp; omega)]
    have hs := k.small (by omega)
    have hr0 := k.fr0
    have hu := k.fu
    have htest := k.test
    rw [wU_id hs.1 hs.2, wU_id (x := 4294967296 * r) (by omega) (by omega), wU_id (x := 4294967296 * r + u) (by omega) (by omega)]
    have : decide (q * yn0 > 4294967296 * r + u) = false := by simp only [decide_eq_false_iff_not]; rw [htest]; omega
    rw [this]
    unfold bits_Div64_j5
    rw [if_neg (by simp), hq]
    exact h
  | succ m ih =>
    intro q r hm k h
    have hlt := k.lt
    have hnn := k.nn
    have hr0 := k.fr0
    have hu := k.fu
    have hy1 := k.fy1
    by_cases hq : q = (A * 4294967296 + u) / Y
    · refine ⟨1, ?_⟩
      unfold bits_Div64_l4N
      rw [if_neg (by simp; omega)]
      have hs := k.small (by omega)
      have htest := k.test
      rw [wU_id hs.1 hs.2, wU_id (x := 4294967296 * r) (by omega) (by omega), wU_id (x := 4294967296 * r + u) (by omega) (by omega)]
      have : decide (q * yn0 > 4294967296 * r + u) = false := by simp only [decide_eq_false_iff_not]; rw [htest]; omega
      rw [this]
      unfold bits_Div64_j5
      rw [if_neg (by simp), hq]
      exact h
    · have hgt : (A * 4294967296 + u) / Y < q := by have := k.fq0; omega
      have hq1 := k.fq1
      have step : ∃ n, bits_Div64_j5 Y s yn1 yn0 u q1 r A q true (fun y_2 s_8 un0_14 q1_15 un21_17 q0_18 => (k0 y_2 s_8 un0_14 q1_15 un21_17 q0_18)) (fun y_2 s_8 yn1_9 yn0_10 un0_14 q1_15 rhat_16 un21_17 q0_18 => (bits_Div64_l4N k0 n y_2 s_8 yn1_9 yn0_10 un0_14 q1_15 rhat_16 un21_17 q0_18)) := by
        unfold bits_Div64_j5
        simp only [if_true]
        rw [wU_id (x := r + yn1) (by omega) (by omega), wU_id (x := q - 1) (by omega) (by omega)]
        by_cases hr : r + yn1 ≥ 4294967296
        · refine ⟨0, ?_⟩
          rw [if_pos (by simpa using hr), k.last hgt hr]
          exact h
        · obtain ⟨n, hn⟩ := ih (q - 1) (r + yn1) (by omega) (k.next hgt (by omega)) h
          refine ⟨n, ?_⟩
          rw [if_neg (by simp; omega)]
          exact hn
      obtain ⟨n, hn⟩ := step
      refine ⟨n + 1, ?_⟩
      unfold bits_Div64_l4N
      by_cases hb : q ≥ 4294967296
      · rw [if_pos (by simpa using hb)]
        exact hn
      · rw [if_neg (by simp; omega)]
        have hs := k.small (by omega)
        have htest := k.test
        rw [wU_id hs.1 hs.2, wU_id (x := 4294967296 * r) (by omega) (by omega), wU_id (x := 4294967296 * r + u) (by omega) (by omega)]
        have : decide (q * yn0 > 4294967296 * r + u) = true := by simp only [decide_eq_true_eq]; rw [htest]; omega
        rw [this]
        exact hn
/-- The first guess. -/
theorem Kn.first {Y yn1 yn0 A u : Int} (hY : Y = yn1 * 4294967296 + yn0) (h1 : 2147483648 ≤ yn1 ∧ yn1 < 4294967296) (h0 : 0 ≤ yn0 ∧ yn0 < 4294967296) (hu : 0 ≤ u ∧ u < 4294967296) (hA : 0 ≤ A ∧ A < Y) :
    Kn Y yn1 yn0 A u (A / yn1) (A - A / yn1 * yn1) := by
  have hd : A = A / yn1 * yn1 + A % yn1 := by have := Int.mul_ediv_add_emod A yn1; rw [Int.mul_comm] at this; omega
  have hm := Int.emod_nonneg A (show yn1 ≠ 0 by omega)
  have hm2 := Int.emod_lt_of_pos A (show 0 < yn1 by omega)
  have hq0 : 0 ≤ A / yn1 := Int.ediv_nonneg hA.1 (by omega)
  refine ⟨hY, h1, h0, hu, hA, ?_, ?_, rfl, by omega, by omega⟩
  · have hYp : 0 < Y := by omega
    have : (A * 4294967296 + u) / Y < A / yn1 + 1 := by
      rw [Int.ediv_lt_iff_lt_mul hYp]
      have e : (A / yn1 + 1) * Y = (A / yn1 * yn1 + yn1) * 4294967296 + (A / yn1 * yn0 + yn0) := by rw [hY]; grind
      rw [e]
      have hn := Int.mul_nonneg hq0 h0.1
      omega
    omega
  · have : A / yn1 < 4294967298 := by
      rw [Int.ediv_lt_iff_lt_mul (by omega)]
      omega
    omega
/-! How many binary digits a number has. -/
def len8 : ByteArray := ⟨#[0, 1, 2, 2, 3, 3, 3, 3, 4, 4, 4, 4, 4, 4, 4, 4, 5, 5, 5, 5, 5, 5, 5, 5, 5, 5, 5, 5, 5, 5, 5, 5, 6, 6, 6, 6, 6, 6, 6, 6, 6, 6, 6, 6, 6, 6, 6, 6, 6, 6, 6, 6, 6, 6, 6, 6, 6, 6, 6, 6, 6, 6, 6, 6, 7, 7, 7, 7, 7, 7, 7, 7, 7, 7, 7, 7, 7, 7, 7, 7, 7, 7, 7, 7, 7, 7, 7, 7, 7, 7, 7, 7, 7, 7, 7, 7, 7, 7, 7, 7, 7, 7, 7, 7, 7, 7, 7, 7, 7, 7, 7, 7, 7, 7, 7, 7, 7, 7, 7, 7, 7, 7, 7, 7, 7, 7, 7, 7, 8, 8, 8, 8, 8, 8, 8, 8, 8, 8, 8, 8, 8, 8, 8, 8, 8, 8, 8, 8, 8, 8, 8, 8, 8, 8, 8, 8, 8, 8, 8, 8, 8, 8, 8, 8, 8, 8, 8, 8, 8, 8, 8, 8, 8, 8, 8, 8, 8, 8, 8, 8, 8, 8, 8, 8, 8, 8, 8, 8, 8, 8, 8, 8, 8, 8, 8, 8, 8, 8, 8, 8, 8, 8, 8, 8, 8, 8, 8, 8, 8, 8, 8, 8, 8, 8, 8, 8, 8, 8, 8, 8, 8, 8, 8, 8, 8, 8, 8, 8, 8, 8, 8, 8, 8, 8, 8, 8, 8, 8, 8, 8, 8, 8, 8, 8, 8, 8, 8, 8, 8, 8, 8, 8, 8, 8, 8, 8]⟩
def bitsOk (x n : Int) : Prop := 0 ≤ n ∧ n ≤ 64 ∧ x < 2 ^ n.toNat ∧ (0 < x → 1 ≤ n ∧ 2 ^ (n.toNat - 1) ≤ x)
theorem len8_ok : ∀ k : Nat, k < 256 → k < 2 ^ (strByte len8 (k : Int)).toNat ∧ (0 < k → 1 ≤ strByte len8 (k : Int) ∧ 2 ^ ((strByte len8 (k : Int)).toNat - 1) ≤ k) ∧ 0 ≤ strByte len8 (k : Int) ∧ strByte len8 (k : Int) ≤ 8 := by decide +kernel
theorem w8 {x : Int} (h : 0 ≤ x) (h' : x < 256) : wU8 x = x := IntWalk.u8_in x (by omega)
theorem j3_ok {x n : Int} (hx : 0 ≤ x) (hx' : x < 65536) (hn : 0 ≤ n) (hn' : n ≤ 48) {K : Int → Prop}
    (h : ∀ (n0 l : Int), n ≤ n0 → n0 ≤ n + 8 → 0 ≤ l → l ≤ 8 → x / 2 ^ (n0 - n).toNat < 2 ^ l.toNat → (0 < x → 1 ≤ l ∧ 2 ^ (l.toNat - 1) ≤ x / 2 ^ (n0 - n).toNat) → K (n0 + l)) : bits_Len64_j3 x n K := by
  unfold bits_Len64_j3
  have p8 : (2 : Int) ^ 8 = 256 := by decide
  have hs : slen len8 = 256 := by decide +kernel
  rw [Int.fdiv_eq_ediv_of_nonneg _ (by decide), p8]
  by_cases hc : x ≥ 256
  · rw [if_pos (by simpa using hc)]
    rw [w8 (x := x / 256) (by omega) (by omega)]
    obtain ⟨k, hk⟩ := Int.eq_ofNat_of_zero_le (show 0 ≤ x / 256 by omega)
    obtain ⟨h1, h2, h3, h4⟩ := len8_ok k (by omega)
    refine ⟨⟨by omega, by show x / 256 < slen len8; rw [hs]; omega⟩, ?_⟩
    show K (wI64 (wI64 (n + 8) + wI64 (strByte len8 (x / 256))))
    rw [hk]
    generalize strByte len8 (k : Int) = l at *
    rw [wI_id (x := n + 8) (by omega) (by omega), wI_id (x := l) (by omega) (by omega), wI_id (by omega) (by omega)]
    refine h (n + 8) l (by omega) (by omega) h3 h4 ?_ (fun hx0 => ?_)
    · rw [show (n + 8 - n).toNat = 8 by omega, p8, hk]
      exact_mod_cast h1
    · rw [show (n + 8 - n).toNat = 8 by omega, p8, hk]
      obtain ⟨h5, h6⟩ := h2 (by omega)
      exact ⟨h5, by exact_mod_cast h6⟩
  · rw [if_neg (by simpa using hc)]
    rw [w8 (x := x) (by omega) (by omega)]
    obtain ⟨k, hk⟩ := Int.eq_ofNat_of_zero_le hx
    obtain ⟨h1, h2, h3, h4⟩ := len8_ok k (by omega)
    refine ⟨⟨by omega, by show x < slen len8; rw [hs]; omega⟩, ?_⟩
    show K (wI64 (n + wI64 (strByte len8 x)))
    rw [hk]
    generalize strByte len8 (k : Int) = l at *
    rw [wI_id (x := l) (by omega) (by omega), wI_id (by omega) (by omega)]
    refine h n l (by omega) (by omega) h3 h4 ?_ (fun hx0 => ?_)
    · rw [show (n - n).toNat = 0 by omega, hk]
      simp only [Int.pow_zero, Int.ediv_one]
      exact_mod_cast h1
    · rw [show (n - n).toNat = 0 by omega, hk]
      simp only [Int.pow_zero, Int.ediv_one]
      obtain ⟨h5, h6⟩ := h2 (by omega)
      exact ⟨h5, by exact_mod_cast h6⟩
theorem len64_ok {x : Int} (hx : 0 < x) (hx' : x < 18446744073709551616) {K : Int → Prop} (h : ∀ n : Int, 1 ≤ n → n ≤ 64 → x < 2 ^ n.toNat → 2 ^ (n.toNat - 1) ≤ x → K n) : bits_Len64 x K := by
  -- what the last stage says, in terms of x
  have key : ∀ (z : Int) (m : Int), 0 ≤ m → m ≤ 48 → z = x / 2 ^ m.toNat → 0 < z → z < 65536 → bits_Len64_j3 z m K := by
    intro z m hm hm' hz hz0 hz1
    refine j3_ok (by omega) hz1 hm hm' (fun n0 l h1 h2 h3 h4 h5 h6 => ?_)
    obtain ⟨h7, h8⟩ := h6 hz0
    have hzz : z / 2 ^ (n0 - m).toNat = x / 2 ^ n0.toNat := by
      rw [hz, Int.ediv_ediv_of_nonneg (Int.pow_nonneg (by omega)), ← Int.pow_add, show m.toNat + (n0 - m).toNat = n0.toNat by omega]
    rw [hzz] at h5 h8
    have hp : (0 : Int) < 2 ^ n0.toNat := Int.pow_pos (by omega)
    have hl : n0 + l ≤ 64 := by
      refine Int.not_lt.1 (fun hgt => ?_)
      have a1 : (2 : Int) ^ (l.toNat - 1) * 2 ^ n0.toNat ≤ x := (Int.le_ediv_iff_mul_le hp).1 h8
      rw [← Int.pow_add] at a1
      have a2 : (2 : Int) ^ 64 ≤ 2 ^ (l.toNat - 1 + n0.toNat) := by
        have := Nat.pow_le_pow_right (show 0 < 2 by omega) (show 64 ≤ l.toNat - 1 + n0.toNat by omega)
        exact_mod_cast this
      have a3 : (2 : Int) ^ 64 = 18446744073709551616 := by decide
      omega
    refine h (n0 + l) (by omega) hl ?_ ?_
    · rw [Int.ediv_lt_iff_lt_mul hp, ← Int.pow_add] at h5
      rw [show (n0 + l).toNat = l.toNat + n0.toNat by omega]
      exact h5
    · have := (Int.le_ediv_iff_mul_le hp).1 h8
      rw [← Int.pow_add] at this
      rw [show (n0 + l).toNat - 1 = l.toNat - 1 + n0.toNat by omega]
      exact this
  have key2 : ∀ (z : Int) (m : Int), 0 ≤ m → m ≤ 32 → z = x / 2 ^ m.toNat → 0 < z → z < 4294967296 → bits_Len64_j2 z m K := by
    intro z m hm hm' hz hz0 hz1
    unfold bits_Len64_j2
    have p16 : (2 : Int) ^ 16 = 65536 := by decide
    by_cases hc : z ≥ 65536
    · rw [if_pos (by simpa using hc), Int.fdiv_eq_ediv_of_nonneg _ (by decide), wI_id (by omega) (by omega)]
      refine key _ _ (by omega) (by omega) ?_ (by omega) (by omega)
      rw [hz, Int.ediv_ediv_of_nonneg (Int.pow_nonneg (by omega)), ← Int.pow_add, show m.toNat + 16 = (m + 16).toNat by omega]
    · rw [if_neg (by simpa using hc)]
      exact key _ _ hm (by omega) hz hz0 (by omega)
  unfold bits_Len64
  by_cases hc : x ≥ 4294967296
  · rw [if_pos (by simpa using hc), fdiv32]
    exact key2 _ _ (by omega) (by omega) (by rw [show ((32 : Int)).toNat = 32 from rfl, p32]) (by omega) (by omega)
  · rw [if_neg (by simpa using hc)]
    exact key2 _ _ (by omega) (by omega) (by rw [show ((0 : Int)).toNat = 0 from rfl]; simp) (by omega) (by omega)
/-! The whole division. -/
theorem shl_ok {x s : Int} (hx : 0 ≤ x) (hs : 0 ≤ s) (hs' : s ≤ 64) (h : x * 2 ^ s.toNat < 18446744073709551616) : shL .u64 x s = x * 2 ^ s.toNat := by
  show IntKind.u64.wrap (x * 2 ^ (min s.toNat 64)) = _
  rw [show min s.toNat 64 = s.toNat by omega]
  exact IntWalk.u64_in _ ⟨Int.mul_nonneg hx (Int.pow_nonneg (by omega)), by omega⟩
theorem shl_mod {x s : Int} (hs : 0 ≤ s) (hs' : s ≤ 64) : shL .u64 x s = x * 2 ^ s.toNat % 18446744073709551616 := by
  show IntKind.u64.wrap (x * 2 ^ (min s.toNat 64)) = _
  rw [show min s.toNat 64 = s.toNat by omega, IntKind.wrap_u64]
theorem shr_ok {x s : Int} (hs : 0 ≤ s) (hs' : s ≤ 64) : shR .u64 x s = x / 2 ^ s.toNat := by
  show Int.fdiv x (2 ^ (min s.toNat 64)) = _
  rw [show min s.toNat 64 = s.toNat by omega]
  exact Int.fdiv_eq_ediv_of_nonneg _ (Int.pow_nonneg (by omega))
theorem or_ok {a b : Int} {s : Nat} (ha : 0 ≤ a) (hb : 0 ≤ b) (hb' : b < 2 ^ s) (h : a * 2 ^ s + b < 18446744073709551616) : bOr .u64 (a * 2 ^ s) b = a * 2 ^ s + b := by
  obtain ⟨x, rfl⟩ := Int.eq_ofNat_of_zero_le ha
  obtain ⟨y, rfl⟩ := Int.eq_ofNat_of_zero_le hb
  have hp : (0 : Int) ≤ (x : Int) * 2 ^ s := Int.mul_nonneg ha (Int.pow_nonneg (by omega))
  have e : (BitVec.ofInt 64 ((x : Int) * 2 ^ s) ||| BitVec.ofInt 64 (y : Int)).toNat = x * 2 ^ s + y := by
    rw [BitVec.toNat_or, ofInt_nat hp (by omega), ofInt_nat hb (by omega)]
    have e1 : ((x : Int) * 2 ^ s).toNat = 2 ^ s * x := by
      have : (x : Int) * 2 ^ s = ((2 ^ s * x : Nat) : Int) := by rw [Int.natCast_mul, Int.natCast_pow, Int.mul_comm]; rfl
      rw [this]; rfl
    rw [e1, Int.toNat_natCast, ← Nat.two_pow_add_eq_or_of_lt (by exact_mod_cast hb'), Nat.mul_comm]
  show IntKind.u64.wrap (((BitVec.ofInt 64 ((x : Int) * 2 ^ s) ||| BitVec.ofInt 64 (y : Int)).toNat : Nat) : Int) = _
  rw [e]
  have e2 : ((x * 2 ^ s + y : Nat) : Int) = (x : Int) * 2 ^ s + y := by simp
  rw [e2]
  exact IntWalk.u64_in _ (by omega)
theorem div64_ok {hi lo y : Int} (hhi : 0 ≤ hi) (hlo : IsU lo) (hy : IsU y) (hlt : hi < y) {K : U → Prop} (h : K ((hi * 18446744073709551616 + lo) / y, (hi * 18446744073709551616 + lo) % y)) : bits_Div64 hi lo y K := by
  obtain ⟨hl0, hl1⟩ := hlo
  obtain ⟨hy0, hy1⟩ := hy
  unfold bits_Div64
  rw [if_neg (by simp; omega), if_neg (by simp; omega)]
  by_cases hz : hi = 0
  · rw [if_pos (by simpa using hz), if_neg (by omega), if_neg (by omega)]
    subst hz
    rw [tdiv_nn hl0, tmod_nn hl0]
    rw [Int.zero_mul, Int.zero_add] at h
    have : 0 ≤ lo / y := Int.ediv_nonneg hl0 hy0
    have h2 : lo / y ≤ lo := Int.ediv_le_self _ hl0
    rw [wU_id this (by omega)]
    exact h
  · rw [if_neg (by simpa using hz)]
    unfold bits_LeadingZeros64
    refine len64_ok (by omega) hy1 (fun n hn1 hn2 hn3 hn4 => ?_)
    rw [wI_id (x := 64 - n) (by omega) (by omega)]
    obtain ⟨s, hs⟩ : ∃ s : Int, s = 64 - n := ⟨_, rfl⟩
    rw [← hs]
    have hs0 : 0 ≤ s ∧ s ≤ 63 := by omega
    rw [wU_id (x := s) (by omega) (by omega), wU_id (x := 64 - s) (by omega) (by omega)]
    rw [if_neg (by omega), if_neg (by omega), if_neg (by omega), if_neg (by omega)]
    -- the shifted numbers
    obtain ⟨c, hc⟩ : ∃ c : Int, c = 2 ^ s.toNat := ⟨_, rfl⟩
    obtain ⟨e, he⟩ : ∃ e : Int, e = 2 ^ (64 - s).toNat := ⟨_, rfl⟩
    have hce : c * e = 18446744073709551616 := by
      rw [hc, he, ← Int.pow_add, show s.toNat + (64 - s).toNat = 64 by omega]
      decide
    have hcp : 0 < c := by rw [hc]; exact Int.pow_pos (by omega)
    have hep : 0 < e := by rw [he]; exact Int.pow_pos (by omega)
    have hYlt : y * c < 18446744073709551616 := by
      rw [← hce]
      have : y < e := by rw [he, show (64 - s).toNat = n.toNat by omega]; exact hn3
      rw [Int.mul_comm c e]
      exact Int.mul_lt_mul_of_pos_right this hcp
    have hYge : 9223372036854775808 ≤ y * c := by
      have h1 : (2 : Int) ^ (n.toNat - 1) * 2 ^ s.toNat = 9223372036854775808 := by
        rw [← Int.pow_add, show n.toNat - 1 + s.toNat = 63 by omega]
        decide
      rw [← h1, hc]
      exact Int.mul_le_mul_of_nonneg_right hn4 (Int.pow_nonneg (by omega))
    rw [shl_ok hy0 hs0.1 (by omega) (by rw [← hc]; exact hYlt), shl_mod (x := lo) hs0.1 (by omega), shr_ok (x := lo) (by omega) (by omega)]
    have hhc : hi * c < y * c := Int.mul_lt_mul_of_pos_right hlt hcp
    have hhc0 : 0 ≤ hi * c := Int.mul_nonneg hhi (by omega)
    rw [shl_ok hhi hs0.1 (by omega) (by rw [← hc]; omega)]
    have hle : lo / e < c := by
      rw [Int.ediv_lt_iff_lt_mul hep, hce]; exact hl1
    have hle0 : 0 ≤ lo / e := Int.ediv_nonneg hl0 (by omega)
    have hA : hi * c + c ≤ y * c := by
      have : (hi + 1) * c ≤ y * c := Int.mul_le_mul_of_nonneg_right (by omega) (by omega)
      have e1 : (hi + 1) * c = hi * c + c := by grind
      omega
    have hor : bOr .u64 (hi * 2 ^ s.toNat) (lo / 2 ^ (64 - s).toNat) = hi * c + lo / e := by
      rw [hc, he]
      exact or_ok hhi (by rw [← he]; exact hle0) (by rw [← he, ← hc]; exact hle) (by rw [← he, ← hc]; omega)
    rw [hor, ← hc]
    obtain ⟨Y, hY⟩ : ∃ Y : Int, Y = y * c := ⟨_, rfl⟩
    obtain ⟨A, hAe⟩ : ∃ A : Int, A = hi * c + lo / e := ⟨_, rfl⟩
    obtain ⟨B, hB⟩ : ∃ B : Int, B = lo * c % 18446744073709551616 := ⟨_, rfl⟩
    rw [← hY, ← hAe, ← hB]
    have hB2 : B = lo % e * c := by
      have e1 : lo * c = lo / e * 18446744073709551616 + lo % e * c := by
        have := Int.mul_ediv_add_emod lo e
        have e2 : lo = e * (lo / e) + lo % e := by omega
        conv => lhs; rw [e2]
        rw [← hce]
        grind
      have hm := Int.emod_nonneg lo (show e ≠ 0 by omega)
      have hm2 := Int.emod_lt_of_pos lo hep
      have h3 : 0 ≤ lo % e * c := Int.mul_nonneg hm (by omega)
      have h4 : lo % e * c < 18446744073709551616 := by
        rw [← hce, Int.mul_comm c e]
        exact Int.mul_lt_mul_of_pos_right hm2 hcp
      rw [hB, e1]
      omega
    have hN : A * 18446744073709551616 + B = (hi * 18446744073709551616 + lo) * c := by
      have e2 : lo = e * (lo / e) + lo % e := by have := Int.mul_ediv_add_emod lo e; omega
      have e3 : (hi * 18446744073709551616 + lo) * c = (hi * 18446744073709551616 + (e * (lo / e) + lo % e)) * c := by rw [← e2]
      rw [e3, hAe, hB2, ← hce]
      grind
    have hAY : 0 ≤ A ∧ A < Y := by omega
    have hB0 : 0 ≤ B ∧ B < 18446744073709551616 := by omega
    have hYb : 9223372036854775808 ≤ Y ∧ Y < 18446744073709551616 := by omega
    rw [fdiv32, fdiv32, and32 (x := Y) (by omega) hYb.2, and32 (x := B) hB0.1 hB0.2]
    have k1 := Kn.first (Y := Y) (yn1 := Y / 4294967296) (yn0 := Y % 4294967296) (A := A) (u := B / 4294967296) (by omega) (by omega) (by omega) (by omega) hAY
    rw [if_neg (by omega), tdiv_nn hAY.1]
    have hq := k1.fq1
    have hq0 : 0 ≤ A / (Y / 4294967296) := by have := k1.fq0; have := k1.nn; omega
    have hr := k1.fr0
    have hprod : 0 ≤ A / (Y / 4294967296) * (Y / 4294967296) := Int.mul_nonneg hq0 (by omega)
    rw [wU_id (x := A / (Y / 4294967296)) hq0 (by omega), wU_id (x := A / (Y / 4294967296) * (Y / 4294967296)) hprod (by omega), wU_id (x := A - A / (Y / 4294967296) * (Y / 4294967296)) (by omega) (by omega)]
    unfold bits_Div64_l2
    refine l2_ok _ _ _ (Nat.le_refl _) k1 ?_
    -- between the two loops
    obtain ⟨Q1, hQ1⟩ : ∃ Q1 : Int, Q1 = (A * 4294967296 + B / 4294967296) / Y := ⟨_, rfl⟩
    rw [← hQ1, if_neg (by omega)]
    have hQlt := k1.lt
    have hQnn := k1.nn
    rw [← hQ1] at hQlt hQnn
    obtain ⟨R1, hR1⟩ : ∃ R1 : Int, R1 = A * 4294967296 + B / 4294967296 - Q1 * Y := ⟨_, rfl⟩
    have hR1b : 0 ≤ R1 ∧ R1 < Y := by
      have h1 := Int.emod_nonneg (A * 4294967296 + B / 4294967296) (show Y ≠ 0 by omega)
      have h2 := Int.emod_lt_of_pos (A * 4294967296 + B / 4294967296) (show 0 < Y by omega)
      have h3 := Int.mul_ediv_add_emod (A * 4294967296 + B / 4294967296) Y
      rw [← hQ1, Int.mul_comm] at h3
      omega
    have hw : wU64 (wU64 (wU64 (A * 4294967296) + B / 4294967296) - wU64 (Q1 * Y)) = R1 := by
      rw [wU_mod, wU_mod, wU_mod, wU_mod]
      generalize Q1 * Y = Z at *
      omega
    rw [hw, tdiv_nn hR1b.1]
    have k2 := Kn.first (Y := Y) (yn1 := Y / 4294967296) (yn0 := Y % 4294967296) (A := R1) (u := B % 4294967296) (by omega) (by omega) (by omega) (by omega) hR1b
    have hq' := k2.fq1
    have hq0' : 0 ≤ R1 / (Y / 4294967296) := by have := k2.fq0; have := k2.nn; omega
    have hr' := k2.fr0
    have hprod' : 0 ≤ R1 / (Y / 4294967296) * (Y / 4294967296) := Int.mul_nonneg hq0' (by omega)
    rw [wU_id (x := R1 / (Y / 4294967296)) hq0' (by omega), wU_id (x := R1 / (Y / 4294967296) * (Y / 4294967296)) hprod' (by omega), wU_id (x := R1 - R1 / (Y / 4294967296) * (Y / 4294967296)) (by omega) (by omega)]
    unfold bits_Div64_l4
    refine l4_ok _ _ _ (Nat.le_refl _) k2 ?_
    obtain ⟨Q0, hQ0⟩ : ∃ Q0 : Int, Q0 = (R1 * 4294967296 + B % 4294967296) / Y := ⟨_, rfl⟩
    rw [← hQ0, if_neg (by omega)]
    have hQ0lt := k2.lt
    have hQ0nn := k2.nn
    rw [← hQ0] at hQ0lt hQ0nn
    obtain ⟨R0, hR0⟩ : ∃ R0 : Int, R0 = R1 * 4294967296 + B % 4294967296 - Q0 * Y := ⟨_, rfl⟩
    have hR0b : 0 ≤ R0 ∧ R0 < Y := by
      have h1 := Int.emod_nonneg (R1 * 4294967296 + B % 4294967296) (show Y ≠ 0 by omega)
      have h2 := Int.emod_lt_of_pos (R1 * 4294967296 + B % 4294967296) (show 0 < Y by omega)
      have h3 := Int.mul_ediv_add_emod (R1 * 4294967296 + B % 4294967296) Y
      rw [← hQ0, Int.mul_comm] at h3
      omega
    have hw0 : wU64 (wU64 (wU64 (R1 * 4294967296) + B % 4294967296) - wU64 (Q0 * Y)) = R0 := by
      rw [wU_mod, wU_mod, wU_mod, wU_mod]
      generalize Q0 * Y = Z at *
      omega
    rw [hw0, wU_id (x := Q1 * 4294967296) (by omega) (by omega), wU_id (x := Q1 * 4294967296 + Q0) (by omega) (by omega), shr_ok hs0.1 (by omega), ← hc]
    -- the result
    have hfin : (hi * 18446744073709551616 + lo) * c = (Q1 * 4294967296 + Q0) * Y + R0 := by
      rw [← hN]
      have e1 : B = B / 4294967296 * 4294967296 + B % 4294967296 := by omega
      have e2 : (Q1 * 4294967296 + Q0) * Y = Q1 * Y * 4294967296 + Q0 * Y := by grind
      rw [e2]
      generalize Q1 * Y = Z at *
      generalize Q0 * Y = Z0 at *
      omega
    obtain ⟨N, hNe⟩ : ∃ N : Int, N = hi * 18446744073709551616 + lo := ⟨_, rfl⟩
    rw [← hNe] at hfin h
    have hdiv : N / y = Q1 * 4294967296 + Q0 ∧ N % y = R0 / c := by
      have h1 : N - (Q1 * 4294967296 + Q0) * y = R0 / c := by
        have e1 : (N - (Q1 * 4294967296 + Q0) * y) * c = R0 := by
          rw [hY] at hfin
          have e2 : (N - (Q1 * 4294967296 + Q0) * y) * c = N * c - (Q1 * 4294967296 + Q0) * (y * c) := by grind
          rw [e2, hfin]; omega
        rw [← e1, Int.mul_ediv_cancel _ (by omega)]
      have h2 : 0 ≤ R0 / c := Int.ediv_nonneg hR0b.1 (by omega)
      have h3 : R0 / c < y := by rw [Int.ediv_lt_iff_lt_mul hcp, ← hY]; exact hR0b.2
      have h4 : N = y * (Q1 * 4294967296 + Q0) + R0 / c := by rw [Int.mul_comm]; omega
      refine ⟨?_, ?_⟩
      · rw [h4, Int.mul_add_ediv_left _ _ (by omega), Int.ediv_eq_zero_of_lt h2 h3, Int.add_zero]
      · rw [h4, Int.mul_add_emod_self_left]
        exact Int.emod_eq_of_lt h2 h3
    rw [← hdiv.1, ← hdiv.2]
    exact h
/-- The quotient and the rest of a number of 128 bits. -/
theorem over_ok {n b : Int} (hn : 0 ≤ n) (hn' : n < 18446744073709551616 * 18446744073709551616) (hb : 0 < b) (hb' : b < 18446744073709551616) {K : (U × Int) → Prop} (h : K (uu (n / b), n % b)) : ratio_over (uu n) b K := by
  unfold ratio_over
  rw [if_neg (by omega)]
  have h1 : 0 ≤ (uu n).1 := by simp only [uu]; omega
  rw [tmod_nn h1, tdiv_nn h1]
  have hm := Int.emod_nonneg (uu n).1 (show b ≠ 0 by omega)
  have hm2 := Int.emod_lt_of_pos (uu n).1 hb
  refine div64_ok hm (by simp only [IsU, uu]; omega) ⟨by omega, hb'⟩ hm2 ?_
  rw [if_neg (by omega)]
  have hd0 : 0 ≤ (uu n).1 / b := Int.ediv_nonneg h1 (by omega)
  have hd1 : (uu n).1 / b ≤ (uu n).1 := Int.ediv_le_self _ h1
  have hu1 : (uu n).1 < 18446744073709551616 := by simp only [uu]; omega
  rw [wU_id hd0 (by omega)]
  -- the quotient in two parts
  have he : n = (uu n).1 * 18446744073709551616 + (uu n).2 := by simp only [uu]; omega
  have hq := Int.mul_ediv_add_emod (uu n).1 b
  have hlb : 0 ≤ (uu n).2 ∧ (uu n).2 < 18446744073709551616 := by simp only [uu]; omega
  generalize (uu n).2 = l at *
  generalize (uu n).1 = hh at *
  obtain ⟨q, hqe⟩ : ∃ q, q = hh / b := ⟨_, rfl⟩
  obtain ⟨r, hre⟩ : ∃ r, r = hh % b := ⟨_, rfl⟩
  rw [← hqe, ← hre] at hq
  rw [← hqe, ← hre]
  have e1 : n = b * (q * 18446744073709551616) + (r * 18446744073709551616 + l) := by
    rw [he, ← hq]; grind
  have e2 : n / b = q * 18446744073709551616 + (r * 18446744073709551616 + l) / b := by
    rw [e1, Int.mul_add_ediv_left _ _ (by omega)]
  have e3 : n % b = (r * 18446744073709551616 + l) % b := by
    rw [e1, Int.mul_add_emod_self_left]
  rw [e2, e3] at h
  rw [← hre] at hm hm2
  have hx1 : (r * 18446744073709551616 + l) / b < 18446744073709551616 := by
    rw [Int.ediv_lt_iff_lt_mul hb]; omega
  have hx0 : 0 ≤ (r * 18446744073709551616 + l) / b := Int.ediv_nonneg (by omega) (by omega)
  have e4 : uu (q * 18446744073709551616 + (r * 18446744073709551616 + l) / b) = (q, (r * 18446744073709551616 + l) / b) := by
    have f1 : (q * 18446744073709551616 + (r * 18446744073709551616 + l) / b) / 18446744073709551616 = q := by omega
    have f2 : (q * 18446744073709551616 + (r * 18446744073709551616 + l) / b) % 18446744073709551616 = (r * 18446744073709551616 + l) / b := by omega
    simp only [uu, f1, f2]
  rw [e4] at h
  exact h
end Go.Proofs.YtieeiiibamkbmaaGreat.Am
namespace Go.Proofs.YtieeiiibamkbmaaGreat.Am
open Go
set_option linter.unusedVariables false
set_option linter.unusedSimpArgs false

theorem nd_of (n d : Int) (hd : 0 < d) (hc : Nat.gcd n.natAbs d.natAbs = 1) : ((n : Rat) / (d : Rat)).num = n ∧ (((n : Rat) / (d : Rat)).den : Int) = d := by
  obtain ⟨m, rfl⟩ := Int.eq_ofNat_of_zero_le (Int.le_of_lt hd)
  have hm : m ≠ 0 := by omega
  have h : (⟨n, m, hm, by simpa [Nat.Coprime] using hc⟩ : Rat) = (n : Rat) / ((m : Int) : Rat) := by
    rw [Rat.mk_eq_divInt, Rat.divInt_eq_div]
  rw [← h]
  exact ⟨rfl, rfl⟩

theorem q_eq (q : Rat) : q = (q.num : Rat) / ((q.den : Int) : Rat) := by
  rw [← Rat.divInt_eq_div, Rat.num_divInt_den]

theorem den_pos (q : Rat) : 0 < (q.den : Int) := by have := q.den_pos; omega

/-- The value determines the parts: n q.den = q.num d. -/
theorem cross (n d : Int) (hd : 0 < d) : n * ((((n : Rat) / (d : Rat)).den : Nat) : Int) = ((n : Rat) / (d : Rat)).num * d := by
  have h := q_eq ((n : Rat) / (d : Rat))
  generalize hq : (n : Rat) / (d : Rat) = q at h ⊢
  have hd' : (d : Rat) ≠ 0 := by
    intro h0; have : d = 0 := by exact_mod_cast h0
    omega
  have hp : ((q.den : Int) : Rat) ≠ 0 := by
    intro h0; have := den_pos q
    have : (q.den : Int) = 0 := by exact_mod_cast h0
    omega
  have h2 : (n : Rat) * ((q.den : Int) : Rat) = (q.num : Rat) * (d : Rat) := by
    have : (n : Rat) / (d : Rat) = (q.num : Rat) / ((q.den : Int) : Rat) := by rw [hq]; exact h
    grind
  exact_mod_cast h2

theorem den_dvd (n d : Int) (hd : 0 < d) : (((n : Rat) / (d : Rat)).den : Int) ∣ d := by
  have h := cross n d hd
  have hr := ((n : Rat) / (d : Rat)).reduced
  generalize (n : Rat) / (d : Rat) = q at h hr
  have h1 : (q.den : Int) ∣ q.num * d := ⟨n, by rw [← h]; exact Int.mul_comm _ _⟩
  have h3 : q.den ∣ q.num.natAbs * d.natAbs := by
    have := Int.natAbs_dvd_natAbs.2 h1
    rwa [Int.natAbs_mul, Int.natAbs_natCast] at this
  have h4 : q.den ∣ d.natAbs := Nat.Coprime.dvd_of_dvd_mul_left hr.symm h3
  exact Int.natAbs_dvd_natAbs.1 (by rwa [Int.natAbs_natCast])

theorem den_le (n d : Int) (hd : 0 < d) : (((n : Rat) / (d : Rat)).den : Int) ≤ d := Int.le_of_dvd hd (den_dvd n d hd)

theorem num_le (n d : Int) (hd : 0 < d) : ((n : Rat) / (d : Rat)).num.natAbs ≤ n.natAbs := by
  have h := cross n d hd
  have hp := den_pos ((n : Rat) / (d : Rat))
  have hl := den_le n d hd
  generalize (n : Rat) / (d : Rat) = q at h hp hl
  have h1 : n.natAbs * q.den = q.num.natAbs * d.natAbs := by
    have := congrArg Int.natAbs h
    rwa [Int.natAbs_mul, Int.natAbs_mul, Int.natAbs_natCast] at this
  have h2 : q.den ≤ d.natAbs := by omega
  have h3 : 0 < q.den := by omega
  have h4 : q.num.natAbs * q.den ≤ q.num.natAbs * d.natAbs := Nat.mul_le_mul_left _ h2
  rw [← h1] at h4
  exact Nat.le_of_mul_le_mul_right h4 h3

def InM (q : Rat) : Prop := q.num.natAbs ≤ 1152921504606846976 ∧ q.den ≤ 1152921504606846976
instance (q : Rat) : Decidable (InM q) := by unfold InM; infer_instance

theorem InM_of (n d : Int) (hd : 0 < d) (h1 : n.natAbs ≤ 1152921504606846976) (h2 : d ≤ 1152921504606846976) : InM ((n : Rat) / (d : Rat)) := by
  have := num_le n d hd; have := den_le n d hd
  exact ⟨by omega, by omega⟩

/-- A valid fraction. -/
def VF (n d : Int) : Prop := 1 ≤ d ∧ d ≤ 1152921504606846976 ∧ -1152921504606846976 ≤ n ∧ n ≤ 1152921504606846976 ∧ Nat.gcd n.natAbs d.natAbs = 1
instance (n d : Int) : Decidable (VF n d) := by unfold VF; infer_instance

theorem VF_iff (n d : Int) : VF n d ↔ ∃ q : Rat, InM q ∧ n = q.num ∧ d = q.den := by
  constructor
  · rintro ⟨h1, h2, h3, h4, h5⟩
    obtain ⟨e1, e2⟩ := nd_of n d (by omega) h5
    refine ⟨(n : Rat) / (d : Rat), ⟨by rw [e1]; omega, by omega⟩, e1.symm, e2.symm⟩
  · rintro ⟨q, ⟨h1, h2⟩, rfl, rfl⟩
    have := q.den_pos
    refine ⟨by omega, by omega, by omega, by omega, ?_⟩
    simpa [Nat.Coprime] using q.reduced
theorem VF_q {q : Rat} (h : InM q) : VF q.num q.den := (VF_iff _ _).2 ⟨q, h, rfl, rfl⟩
/-- Any reduced form is the form. -/
theorem form (q : Rat) (n d : Int) (hd : 0 < d) (hc : Nat.gcd n.natAbs d.natAbs = 1) (h : n * q.den = q.num * d) : q.num = n ∧ (q.den : Int) = d := by
  have hd' : (d : Rat) ≠ 0 := by
    intro h0; have : d = 0 := by exact_mod_cast h0
    omega
  have hp : ((q.den : Int) : Rat) ≠ 0 := by
    intro h0; have := den_pos q
    have : (q.den : Int) = 0 := by exact_mod_cast h0
    omega
  have e : q = (n : Rat) / (d : Rat) := by
    have h2 : (n : Rat) * ((q.den : Int) : Rat) = (q.num : Rat) * (d : Rat) := by exact_mod_cast h
    have h3 := q_eq q
    have : (n : Rat) / (d : Rat) = (q.num : Rat) / ((q.den : Int) : Rat) := by grind
    rw [this]; exact h3
  rw [e]
  exact nd_of n d hd hc

/-! What an operation answers. -/
abbrev fr (q : Rat) : Frac := (q.num, (q.den : Int))
def res (q : Rat) : Frac × Int := if InM q then (fr q, 0) else ((0, 0), 5)
theorem res_in {q : Rat} (h : InM q) : res q = (fr q, 0) := if_pos h
theorem res_out {q : Rat} (h : ¬ InM q) : res q = ((0, 0), 5) := if_neg h
theorem fr_inj {p q : Rat} (h : fr p = fr q) : p = q := by
  have h1 : p.num = q.num := congrArg Prod.fst h
  have h2 : (p.den : Int) = q.den := congrArg Prod.snd h
  rw [q_eq p, q_eq q, h1, h2]
theorem valid_fr {q : Rat} (h : InM q) : VF (fr q).1 (fr q).2 := VF_q h
theorem fr_of_valid {a : Frac} (h : VF a.1 a.2) : ∃ q, InM q ∧ a = fr q := by
  obtain ⟨q, h1, h2, h3⟩ := (VF_iff _ _).1 h
  exact ⟨q, h1, Prod.ext h2 h3⟩
theorem valid_ok {a : Frac} {K : Bool → Prop} (h : K (decide (VF a.1 a.2))) : ratio_Valid a K := by
  unfold ratio_Valid
  have no : ¬ VF a.1 a.2 → K false := fun hv => by rw [show decide (VF a.1 a.2) = false by simp [hv]] at h; exact h
  by_cases h1 : a.2 ≥ 1
  · rw [if_pos (by simpa using h1)]
    by_cases h2 : a.2 ≤ 1152921504606846976
    · rw [if_pos (by simpa using h2)]
      by_cases h3 : a.1 ≥ -1152921504606846976
      · rw [if_pos (by simpa using h3)]
        by_cases h4 : a.1 ≤ 1152921504606846976
        · rw [if_pos (by simpa using h4)]
          refine size_ok ⟨by omega, by omega⟩ ?_
          rw [wU_id (x := a.2) (by omega) (by omega)]
          refine gcd_ok (by omega) (by omega) ?_
          have e : (((Int.gcd (a.1.natAbs : Int) a.2 : Nat) : Int) == 1) = decide (VF a.1 a.2) := by
            rw [Bool.eq_iff_iff]
            simp only [beq_iff_eq, decide_eq_true_eq]
            unfold VF
            simp only [Int.gcd, Int.natAbs_natCast]
            constructor
            · intro hg
              exact ⟨h1, h2, h3, h4, by exact_mod_cast hg⟩
            · intro hg
              exact_mod_cast hg.2.2.2.2
          rw [e]; exact h
        · rw [if_neg (by simpa using h4)]
          exact no (fun hv => h4 hv.2.2.2.1)
      · rw [if_neg (by simpa using h3)]
        exact no (fun hv => h3 hv.2.2.1)
    · rw [if_neg (by simpa using h2)]
      exact no (fun hv => h2 hv.2.1)
  · rw [if_neg (by simpa using h1)]
    exact no (fun hv => h1 hv.1)
theorem valid_yes {q : Rat} (hq : InM q) {K : Bool → Prop} (h : K true) : ratio_Valid (fr q) K := valid_ok (by rw [show decide (VF (fr q).1 (fr q).2) = true by simpa using valid_fr hq]; exact h)
theorem signed_ok {q : Rat} {neg : Bool} {N D : Int} (hnum : q.num = if neg then -N else N) (hD : (q.den : Int) = D) (hN0 : 0 ≤ N) (hNu : N < 18446744073709551616) (hDu : D < 18446744073709551616) {K : Frac × Int → Prop} (h : K (res q)) :
    ratio_signed neg N D K := by
  have hd := den_pos q
  have habs : (q.num.natAbs : Int) = N := by rw [hnum]; cases neg <;> simp <;> omega
  have hout : ¬ (N ≤ 1152921504606846976 ∧ D ≤ 1152921504606846976) → K ((0, 0), 5) := fun hc => by
    rw [res_out (fun hi => hc ⟨by have := hi.1; omega, by have := hi.2; omega⟩)] at h
    exact h
  unfold ratio_signed
  by_cases h1 : N > 1152921504606846976
  · rw [if_pos (by simpa using h1)]
    unfold ratio_signed_j2
    rw [if_pos rfl]
    exact hout (by omega)
  · rw [if_neg (by simpa using h1)]
    by_cases h2 : D > 1152921504606846976
    · rw [show decide (D > 1152921504606846976) = true by simpa using h2]
      unfold ratio_signed_j2
      rw [if_pos rfl]
      exact hout (by omega)
    · rw [show decide (D > 1152921504606846976) = false by simpa using h2]
      unfold ratio_signed_j2
      rw [if_neg (by simp)]
      have hin : InM q := ⟨by omega, by omega⟩
      rw [res_in hin] at h
      rw [wI_id (x := N) (by omega) (by omega), wI_id (x := D) (by omega) (by omega), wI_id (x := 0 - N) (by omega) (by omega)]
      cases neg with
      | true =>
        rw [if_pos rfl]
        have : fr q = (0 - N, D) := by unfold fr; rw [hnum, hD]; simp
        rw [← this]; exact h
      | false =>
        rw [if_neg (by simp)]
        have : fr q = (N, D) := by unfold fr; rw [hnum, hD]; simp
        rw [← this]; exact h
/-- The parts of a fraction that is given by any numerator and denominator. -/
theorem parts {q : Rat} {n d : Int} (hd : 0 < d) (h : q = (n : Rat) / (d : Rat)) (g : Nat) (hg : g = Nat.gcd n.natAbs d.natAbs) : q.num = n / g ∧ (q.den : Int) = d / g := by
  have hgp : 0 < g := by rw [hg]; exact Nat.gcd_pos_of_pos_right _ (by omega)
  have hgn : (g : Int) ∣ n := by rw [hg]; exact Int.natAbs_dvd_natAbs.1 (by rw [Int.natAbs_natCast]; exact Nat.gcd_dvd_left _ _)
  have hgd : (g : Int) ∣ d := by rw [hg]; exact Int.natAbs_dvd_natAbs.1 (by rw [Int.natAbs_natCast]; exact Nat.gcd_dvd_right _ _)
  obtain ⟨n', hn'⟩ := hgn
  obtain ⟨d', hd'⟩ := hgd
  have hgi : (0 : Int) < g := by exact_mod_cast hgp
  have hd0 : 0 < d' := by
    rw [hd'] at hd
    exact Int.pos_of_mul_pos_right hd hgi
  have e1 : n / g = n' := by rw [hn', Int.mul_ediv_cancel_left _ (by omega)]
  have e2 : d / g = d' := by rw [hd', Int.mul_ediv_cancel_left _ (by omega)]
  rw [e1, e2]
  refine form q n' d' hd0 ?_ ?_
  · have : Nat.gcd (g * n'.natAbs) (g * d'.natAbs) = g := by
      rw [hn', hd', Int.natAbs_mul, Int.natAbs_mul, Int.natAbs_natCast] at hg
      exact hg.symm
    rw [Nat.gcd_mul_left] at this
    exact Nat.eq_of_mul_eq_mul_left hgp (by rw [this, Nat.mul_one])
  · have hc := cross n d hd
    rw [← h] at hc
    rw [hn', hd'] at hc
    have : (g : Int) * (n' * q.den) = g * (q.num * d') := by grind
    exact Int.eq_of_mul_eq_mul_left (by omega) this
/-- .. by its sign and its sizes. -/
theorem parts_abs {q : Rat} {N D : Nat} {neg : Bool} (hD : 0 < D) (h : q = ((if neg then -(N : Int) else (N : Int) : Int) : Rat) / ((D : Int) : Rat)) :
    q.num = (if neg then -((N / Nat.gcd N D : Nat) : Int) else ((N / Nat.gcd N D : Nat) : Int)) ∧ q.den = D / Nat.gcd N D := by
  have habs : (if neg then -(N : Int) else (N : Int)).natAbs = N := by cases neg <;> simp
  obtain ⟨h1, h2⟩ := parts (by exact_mod_cast hD) h (Nat.gcd N D) (by rw [habs]; simp)
  refine ⟨?_, by exact_mod_cast h2⟩
  rw [h1]
  cases neg with
  | false => simp
  | true =>
    simp only [if_true]
    obtain ⟨k, hk⟩ := Nat.gcd_dvd_left N D
    have hg : 0 < Nat.gcd N D := Nat.gcd_pos_of_pos_right _ hD
    generalize Nat.gcd N D = g at *
    subst hk
    rw [Nat.mul_div_cancel_left _ hg]
    have : (-((g * k : Nat) : Int)) = (g : Int) * (-(k : Int)) := by simp [Int.mul_neg]
    rw [this, Int.mul_ediv_cancel_left _ (by omega)]
end Go.Proofs.YtieeiiibamkbmaaGreat.Am
namespace Go.Proofs.YtieeiiibamkbmaaGreat.Am
open Go
set_option linter.unusedVariables false
set_option linter.unusedSimpArgs false

theorem cast_ne {d : Int} (h : d ≠ 0) : (d : Rat) ≠ 0 := by
  intro h0; exact h (by exact_mod_cast h0)
theorem rdiv {a b c d : Int} (hb : b ≠ 0) (hd : d ≠ 0) (h : a * d = c * b) : (a : Rat) / (b : Rat) = (c : Rat) / (d : Rat) := by
  have h1 := cast_ne hb
  have h2 := cast_ne hd
  have h3 : (a : Rat) * (d : Rat) = (c : Rat) * (b : Rat) := by exact_mod_cast h
  grind
theorem wU_nat {n : Nat} (h : n < 18446744073709551616) : wU64 (n : Int) = n := wU_id (by omega) (by omega)
theorem u_nat {n : Nat} (h : n < 18446744073709551616) : IsU (n : Int) := ⟨by omega, by omega⟩
theorem tdiv_nat (a b : Nat) : Int.tdiv (a : Int) (b : Int) = ((a / b : Nat) : Int) := by rw [tdiv_nn (by omega)]; rfl
theorem make_ok {n d : Int} (hn : IsI n) (hd : IsI d) (h0 : d ≠ 0) {K : Frac × Int → Prop} (h : K (res ((n : Rat) / (d : Rat)))) : ratio_Make n d K := by
  unfold ratio_Make
  rw [if_neg (by simpa using h0)]
  refine size_ok hn (size_ok hd (gcd_ok (by omega) (by omega) ?_))
  have hg : Int.gcd (n.natAbs : Int) (d.natAbs : Int) = Nat.gcd n.natAbs d.natAbs := by simp [Int.gcd]
  rw [hg]
  have hD : 0 < d.natAbs := by omega
  have hgp : 0 < Nat.gcd n.natAbs d.natAbs := Nat.gcd_pos_of_pos_right _ hD
  have hnb : n.natAbs ≤ 9223372036854775808 := by have := hn.1; have := hn.2; omega
  have hdb : d.natAbs ≤ 9223372036854775808 := by have := hd.1; have := hd.2; omega
  have l1 : n.natAbs / Nat.gcd n.natAbs d.natAbs ≤ n.natAbs := Nat.div_le_self _ _
  have l2 : d.natAbs / Nat.gcd n.natAbs d.natAbs ≤ d.natAbs := Nat.div_le_self _ _
  have key : ∀ neg : Bool, n * (d.natAbs : Int) = (if neg then -(n.natAbs : Int) else (n.natAbs : Int)) * d →
      ratio_signed neg (wU64 (Int.tdiv (n.natAbs : Int) (Nat.gcd n.natAbs d.natAbs : Nat))) (wU64 (Int.tdiv (d.natAbs : Int) (Nat.gcd n.natAbs d.natAbs : Nat))) K := by
    intro neg hneg
    obtain ⟨e1, e2⟩ := parts_abs (q := (n : Rat) / (d : Rat)) (N := n.natAbs) (D := d.natAbs) (neg := neg) hD (rdiv h0 (by omega) hneg)
    rw [tdiv_nat, tdiv_nat, wU_nat (n := n.natAbs / Nat.gcd n.natAbs d.natAbs) (by omega), wU_nat (n := d.natAbs / Nat.gcd n.natAbs d.natAbs) (by omega)]
    exact signed_ok e1 (by rw [e2]) (Int.natCast_nonneg _) (u_nat (by omega)).2 (u_nat (by omega)).2 h
  by_cases hz : n = 0
  · rw [if_neg (by simpa using hz), if_neg (by omega), if_neg (by omega)]
    exact key false (by subst hz; simp)
  · rw [if_pos (by simpa using hz), if_neg (by omega), if_neg (by omega)]
    refine key _ ?_
    by_cases h1 : n < 0 <;> by_cases h2 : d < 0
    · simp only [h1, h2, decide_true, beq_self_eq_true, Bool.not_true, Bool.false_eq_true, if_false]
      rw [show (d.natAbs : Int) = -d by omega, show (n.natAbs : Int) = -n by omega]
      grind
    · simp only [h1, h2, decide_true, decide_false]
      rw [show (d.natAbs : Int) = d by omega, show (n.natAbs : Int) = -n by omega]
      simp
    · simp only [h1, h2, decide_true, decide_false]
      rw [show (d.natAbs : Int) = -d by omega, show (n.natAbs : Int) = n by omega]
      simp [Int.mul_neg, Int.neg_mul]
    · simp only [h1, h2, decide_false, beq_self_eq_true, Bool.not_true, Bool.false_eq_true, if_false]
      rw [show (d.natAbs : Int) = d by omega, show (n.natAbs : Int) = n by omega]
theorem make_zero {n : Int} {K : Frac × Int → Prop} (h : K ((0, 0), 16)) : ratio_Make n 0 K := by
  unfold ratio_Make
  rw [if_pos (by simp)]
  exact h
theorem cop_sum {an bn : Int} {a' b' ad : Nat} (h1 : Nat.Coprime an.natAbs ad) (ha : a' ∣ ad) (hab : Nat.Coprime a' b') : Nat.Coprime (an * b' + bn * a').natAbs a' := by
  have he1 : Nat.gcd (an * b' + bn * a').natAbs a' ∣ a' := Nat.gcd_dvd_right _ _
  have he2 : Nat.gcd (an * b' + bn * a').natAbs a' ∣ (an * b' + bn * a').natAbs := Nat.gcd_dvd_left _ _
  show Nat.gcd (an * b' + bn * a').natAbs a' = 1
  generalize Nat.gcd (an * b' + bn * a').natAbs a' = e at *
  have h2 : (e : Int) ∣ an * b' + bn * a' := Int.natAbs_dvd_natAbs.1 (by rw [Int.natAbs_natCast]; exact he2)
  have h3 : (e : Int) ∣ bn * a' := Int.dvd_mul_of_dvd_right (by exact_mod_cast he1)
  have h4 : (e : Int) ∣ an * b' := (Int.dvd_add_left h3).1 h2
  have h5 : e ∣ an.natAbs * b' := by
    have := Int.natAbs_dvd_natAbs.2 h4
    rwa [Int.natAbs_natCast, Int.natAbs_mul, Int.natAbs_natCast] at this
  have h6 : Nat.Coprime e an.natAbs := (Nat.Coprime.coprime_dvd_right (Nat.dvd_trans he1 ha) h1).symm
  have h7 : e ∣ b' := Nat.Coprime.dvd_of_dvd_mul_left h6 h5
  exact Nat.eq_one_of_dvd_one (by rw [← hab]; exact Nat.dvd_gcd he1 h7)
/-- What is added, in lowest terms but for what divides g. -/
structure Sm (p q : Rat) (g a' b' : Nat) (S : Int) : Prop where
  fg : g = Nat.gcd p.den q.den
  fa : p.den = g * a'
  fb : q.den = g * b'
  fS : S = p.num * b' + q.num * a'
theorem sm_of (p q : Rat) : Sm p q (Nat.gcd p.den q.den) (p.den / Nat.gcd p.den q.den) (q.den / Nat.gcd p.den q.den) (p.num * ((q.den / Nat.gcd p.den q.den : Nat) : Int) + q.num * ((p.den / Nat.gcd p.den q.den : Nat) : Int)) :=
  ⟨rfl, (Nat.mul_div_cancel' (Nat.gcd_dvd_left _ _)).symm, (Nat.mul_div_cancel' (Nat.gcd_dvd_right _ _)).symm, rfl⟩
theorem Sm.pos {p q : Rat} {g a' b' : Nat} {S : Int} (s : Sm p q g a' b' S) : 0 < g ∧ 0 < a' ∧ 0 < b' := by
  have h1 := p.den_pos
  have h2 := q.den_pos
  have h3 := s.fa
  have h4 := s.fb
  refine ⟨?_, ?_, ?_⟩
  · exact Nat.pos_of_ne_zero (fun e => by subst e; omega)
  · exact Nat.pos_of_ne_zero (fun e => by subst e; omega)
  · exact Nat.pos_of_ne_zero (fun e => by subst e; omega)
theorem Sm.cop {p q : Rat} {g a' b' : Nat} {S : Int} (s : Sm p q g a' b' S) : Nat.Coprime S.natAbs a' ∧ Nat.Coprime S.natAbs b' := by
  obtain ⟨hg, ha0, hb0⟩ := s.pos
  have hab : Nat.Coprime a' b' := by
    have := s.fg
    rw [s.fa, s.fb, Nat.gcd_mul_left] at this
    exact Nat.eq_of_mul_eq_mul_left hg (by rw [← this, Nat.mul_one])
  rw [s.fS]
  refine ⟨cop_sum p.reduced ⟨g, by rw [s.fa, Nat.mul_comm]⟩ hab, ?_⟩
  rw [Int.add_comm]
  exact cop_sum q.reduced ⟨g, by rw [s.fb, Nat.mul_comm]⟩ hab.symm
theorem Sm.sum {p q : Rat} {g a' b' : Nat} {S : Int} (s : Sm p q g a' b' S) : p + q = (S : Rat) / ((a' * b' * g : Nat) : Int) := by
  obtain ⟨hg, ha0, hb0⟩ := s.pos
  have hp := q_eq p
  have hq := q_eq q
  have h1 : ((p.den : Int) : Rat) ≠ 0 := cast_ne (by have := p.den_pos; omega)
  have h2 : ((q.den : Int) : Rat) ≠ 0 := cast_ne (by have := q.den_pos; omega)
  have e1 : p + q = ((p.num * q.den + q.num * p.den : Int) : Rat) / ((p.den * q.den : Int) : Rat) := by
    have e2 : ((p.num * q.den + q.num * p.den : Int) : Rat) = (p.num : Rat) * ((q.den : Int) : Rat) + (q.num : Rat) * ((p.den : Int) : Rat) := by push_cast; rfl
    have e3 : ((p.den * q.den : Int) : Rat) = ((p.den : Int) : Rat) * ((q.den : Int) : Rat) := by push_cast; rfl
    rw [e2, e3]
    generalize (p.num : Rat) = x at *
    generalize (q.num : Rat) = y at *
    generalize ((p.den : Int) : Rat) = z at *
    generalize ((q.den : Int) : Rat) = w at *
    subst hp hq
    grind
  rw [e1]
  refine rdiv ?_ ?_ ?_
  · have := p.den_pos; have := q.den_pos
    exact Int.mul_ne_zero (by omega) (by omega)
  · have : 0 < a' * b' * g := Nat.mul_pos (Nat.mul_pos ha0 hb0) hg
    omega
  · rw [s.fS, s.fa, s.fb]
    push_cast
    grind
/-- The sum's parts. -/
theorem Sm.parts {p q : Rat} {g a' b' : Nat} {S : Int} (s : Sm p q g a' b' S) {N : Nat} {neg : Bool} (hS : S = if neg then -(N : Int) else (N : Int)) :
    (p + q).num = (if neg then -((N / Nat.gcd g N : Nat) : Int) else ((N / Nat.gcd g N : Nat) : Int)) ∧ (p + q).den = a' * (q.den / Nat.gcd g N) := by
  obtain ⟨hg, ha0, hb0⟩ := s.pos
  have hN : S.natAbs = N := by rw [hS]; cases neg <;> simp
  obtain ⟨c1, c2⟩ := s.cop
  rw [hN] at c1 c2
  have hpos : 0 < a' * b' * g := Nat.mul_pos (Nat.mul_pos ha0 hb0) hg
  have hgcd : Nat.gcd N (a' * b' * g) = Nat.gcd g N := by
    rw [Nat.Coprime.gcd_mul_left_cancel_right g (Nat.Coprime.mul_right c1 c2).symm, Nat.gcd_comm]
  have h1 := parts_abs (q := p + q) (N := N) (D := a' * b' * g) (neg := neg) hpos (by rw [s.sum, hS])
  rw [hgcd] at h1
  refine ⟨h1.1, ?_⟩
  rw [h1.2, s.fb]
  obtain ⟨k, hk⟩ := Nat.gcd_dvd_left g N
  have hcp : 0 < Nat.gcd g N := Nat.gcd_pos_of_pos_left _ hg
  generalize Nat.gcd g N = c at *
  subst hk
  rw [show a' * b' * (c * k) = c * (a' * (b' * k)) by simp only [Nat.mul_assoc, Nat.mul_left_comm, Nat.mul_comm], Nat.mul_div_cancel_left _ hcp,
    show c * k * b' = c * (b' * k) by simp only [Nat.mul_assoc, Nat.mul_left_comm, Nat.mul_comm], Nat.mul_div_cancel_left _ hcp]
theorem nat_uu {n : Nat} : uu (n : Int) = (((n / 18446744073709551616 : Nat) : Int), ((n % 18446744073709551616 : Nat) : Int)) := rfl
theorem add_j3_ok {p q : Rat} (hp : InM p) (hq : InM q) {g a' b' : Nat} {S : Int} (s : Sm p q g a' b' S) {N : Nat} {neg : Bool} (hS : S = if neg then -(N : Int) else (N : Int)) (hN : N < 340282366920938463463374607431768211456) {b4 : Frac} {kr : Frac → Int → Prop}
    (h : kr (res (p + q)).1 (res (p + q)).2) : ratio_Add_j3 (g : Int) neg (fr p) (fr q) b4 (uu (N : Int)) kr := by
  obtain ⟨hg, ha0, hb0⟩ := s.pos
  obtain ⟨e1, e2⟩ := s.parts hS
  unfold ratio_Add_j3
  have hpd := hp.2
  have hqd := hq.2
  by_cases hz : N = 0
  · subst hz
    rw [if_pos (by rfl)]
    have hzero : p + q = 0 := by
      rw [s.sum, hS]
      cases neg <;> simp [Rat.div_def, Rat.zero_mul]
    rw [hzero] at h
    exact h
  · have hgl : g ≤ p.den := by rw [s.fa]; exact Nat.le_mul_of_pos_right _ ha0
    have hal : a' ≤ p.den := by rw [s.fa]; exact Nat.le_mul_of_pos_left _ hg
    rw [if_neg (by
      rw [nat_uu]
      simp only [Bool.and_eq_true, beq_iff_eq]
      omega)]
    refine over_ok (by omega) (by omega) (by omega) (by omega) ?_
    have hmod : ((N : Int) % (g : Int)) = ((N % g : Nat) : Int) := rfl
    simp only [hmod]
    refine gcd_ok (by omega) (by omega) ?_
    have hc : Int.gcd (g : Int) ((N % g : Nat) : Int) = Nat.gcd g N := by
      simp only [Int.gcd, Int.natAbs_natCast]
      rw [Nat.gcd_comm, ← Nat.gcd_rec]
    rw [hc]
    have hcp : 0 < Nat.gcd g N := Nat.gcd_pos_of_pos_left _ hg
    have hcl : Nat.gcd g N ≤ g := Nat.le_of_dvd hg (Nat.gcd_dvd_left _ _)
    have hcd : Nat.gcd g N ≤ g := hcl
    refine over_ok (by omega) (by omega) (by omega) (by omega) ?_
    rw [if_neg (by omega), if_neg (by omega)]
    have hNc : ((N : Int) / (Nat.gcd g N : Nat)) = ((N / Nat.gcd g N : Nat) : Int) := rfl
    simp only [hNc, fr]
    rw [wU_nat (n := p.den) (by omega), wU_nat (n := q.den) (by omega), tdiv_nat, tdiv_nat]
    have ea : p.den / g = a' := by rw [s.fa, Nat.mul_div_cancel_left _ hg]
    rw [ea]
    have hbl : q.den / Nat.gcd g N ≤ q.den := Nat.div_le_self _ _
    rw [wU_nat (n := a') (by omega), wU_nat (n := q.den / Nat.gcd g N) (by omega)]
    refine product_ok (u_nat (by omega)) (u_nat (by omega)) ?_
    have hden : ((a' : Int) * ((q.den / Nat.gcd g N : Nat) : Int)) = (((p + q).den : Nat) : Int) := by rw [e2]; push_cast; rfl
    rw [hden]
    generalize N / Nat.gcd g N = n1 at *
    have habs : (p + q).num.natAbs = n1 := by rw [e1]; cases neg <;> simp
    rw [nat_uu, nat_uu]
    have hbig : (18446744073709551616 ≤ n1 ∨ 18446744073709551616 ≤ (p + q).den) → kr (0, 0) 5 := fun hb => by
      rw [res_out (fun hi => by have h1 := hi.1; have h2 := hi.2; omega)] at h
      exact h
    by_cases h1 : 18446744073709551616 ≤ n1
    · rw [if_pos (by simp only [decide_eq_true_eq]; omega)]
      unfold ratio_Add_j4
      rw [if_pos rfl]
      exact hbig (.inl h1)
    · rw [if_neg (by simp only [decide_eq_true_eq]; omega)]
      by_cases h2 : 18446744073709551616 ≤ (p + q).den
      · unfold ratio_Add_j4
        rw [if_pos (by simp only [decide_eq_true_eq]; omega)]
        exact hbig (.inr h2)
      · unfold ratio_Add_j4
        rw [if_neg (by simp only [decide_eq_true_eq]; omega)]
        simp only []
        rw [Nat.mod_eq_of_lt (by omega), Nat.mod_eq_of_lt (by omega)]
        exact signed_ok e1 rfl (by omega) (by omega) (by omega) h
theorem inm_isi {q : Rat} (h : InM q) : IsI q.num := by have := h.1; exact ⟨by omega, by omega⟩
theorem add_ok {p q : Rat} (hp : InM p) (hq : InM q) {K : Frac × Int → Prop} (h : K (res (p + q))) : ratio_Add (fr p) (fr q) K := by
  unfold ratio_Add
  refine valid_yes hp ?_
  rw [if_neg (by simp)]
  refine valid_yes hq ?_
  unfold ratio_Add_j2
  rw [if_neg (by simp)]
  have hpd := hp.2
  have hqd := hq.2
  have hp1 := hp.1
  have hq1 := hq.1
  have s := sm_of p q
  simp only [fr]
  rw [wU_nat (n := p.den) (by omega), wU_nat (n := q.den) (by omega)]
  refine gcd_ok (by omega) (by omega) ?_
  have hgi : Int.gcd (p.den : Int) (q.den : Int) = Nat.gcd p.den q.den := by simp [Int.gcd]
  rw [hgi]
  obtain ⟨hg, ha0, hb0⟩ := s.pos
  have hal : p.den / Nat.gcd p.den q.den ≤ p.den := Nat.div_le_self _ _
  have hbl : q.den / Nat.gcd p.den q.den ≤ q.den := Nat.div_le_self _ _
  refine size_ok (inm_isi hp) ?_
  rw [if_neg (by omega), tdiv_nat, wU_nat (n := q.den / Nat.gcd p.den q.den) (by omega)]
  refine product_ok (u_nat (by omega)) (u_nat (by omega)) (size_ok (inm_isi hq) ?_)
  rw [if_neg (by omega), tdiv_nat, wU_nat (n := p.den / Nat.gcd p.den q.den) (by omega)]
  refine product_ok (u_nat (by omega)) (u_nat (by omega)) ?_
  generalize q.den / Nat.gcd p.den q.den = b' at *
  generalize p.den / Nat.gcd p.den q.den = a' at *
  generalize Nat.gcd p.den q.den = g at *
  -- the two products
  obtain ⟨x, hx⟩ : ∃ x : Nat, x = p.num.natAbs * b' := ⟨_, rfl⟩
  obtain ⟨y, hy⟩ : ∃ y : Nat, y = q.num.natAbs * a' := ⟨_, rfl⟩
  have ex : (p.num.natAbs : Int) * (b' : Int) = (x : Int) := by rw [hx]; push_cast; rfl
  have ey : (q.num.natAbs : Int) * (a' : Int) = (y : Int) := by rw [hy]; push_cast; rfl
  rw [ex, ey]
  have hxb : x ≤ 1152921504606846976 * 1152921504606846976 := by rw [hx]; exact Nat.mul_le_mul hp1 (by omega)
  have hyb : y ≤ 1152921504606846976 * 1152921504606846976 := by rw [hy]; exact Nat.mul_le_mul hq1 (by omega)
  have hpx : p.num * b' = if p.num < 0 then -(x : Int) else (x : Int) := by
    rw [← ex]
    split
    · rw [show (p.num.natAbs : Int) = -p.num by omega]; grind
    · rw [show (p.num.natAbs : Int) = p.num by omega]
  have hqy : q.num * a' = if q.num < 0 then -(y : Int) else (y : Int) := by
    rw [← ey]
    split
    · rw [show (q.num.natAbs : Int) = -q.num by omega]; grind
    · rw [show (q.num.natAbs : Int) = q.num by omega]
  have fin : ∀ (N : Nat) (neg : Bool), (p.num * b' + q.num * a' = if neg then -(N : Int) else (N : Int)) → N < 340282366920938463463374607431768211456 → ∀ b4, ratio_Add_j3 (g : Int) neg (fr p) (fr q) b4 (uu (N : Int)) (fun rb_4 rt_5 => K (rb_4, rt_5)) :=
    fun N neg hS hN b4 => add_j3_ok hp hq s hS hN h
  by_cases h1 : p.num < 0 <;> by_cases h2 : q.num < 0
  · rw [if_pos h1] at hpx
    rw [if_pos h2] at hqy
    rw [if_pos (by simp [h1, h2])]
    refine plus_ok (by omega) (by omega) (by omega) ?_
    rw [show (x : Int) + (y : Int) = ((x + y : Nat) : Int) by push_cast; rfl, show decide (p.num < 0) = true by simpa using h1]
    exact fin (x + y) true (by rw [hpx, hqy]; simp; omega) (by omega) _
  · rw [if_pos h1] at hpx
    rw [if_neg h2] at hqy
    rw [if_neg (by simp [h1, h2])]
    refine less_ok ?_
    by_cases h3 : (x : Int) < y
    · rw [if_pos (by simpa using h3)]
      refine minus_ok (by omega) (by omega) (by omega) ?_
      rw [show (y : Int) - (x : Int) = ((y - x : Nat) : Int) by omega, show decide (p.num < 0) = true by simpa using h1]
      exact fin (y - x) false (by rw [hpx, hqy]; simp; omega) (by omega) _
    · rw [if_neg (by simpa using h3)]
      refine minus_ok (by omega) (by omega) (by omega) ?_
      rw [show (x : Int) - (y : Int) = ((x - y : Nat) : Int) by omega, show decide (p.num < 0) = true by simpa using h1]
      exact fin (x - y) true (by rw [hpx, hqy]; simp; omega) (by omega) _
  · rw [if_neg h1] at hpx
    rw [if_pos h2] at hqy
    rw [if_neg (by simp [h1, h2])]
    refine less_ok ?_
    by_cases h3 : (x : Int) < y
    · rw [if_pos (by simpa using h3)]
      refine minus_ok (by omega) (by omega) (by omega) ?_
      rw [show (y : Int) - (x : Int) = ((y - x : Nat) : Int) by omega, show decide (p.num < 0) = false by simpa using h1]
      exact fin (y - x) true (by rw [hpx, hqy]; simp; omega) (by omega) _
    · rw [if_neg (by simpa using h3)]
      refine minus_ok (by omega) (by omega) (by omega) ?_
      rw [show (x : Int) - (y : Int) = ((x - y : Nat) : Int) by omega, show decide (p.num < 0) = false by simpa using h1]
      exact fin (x - y) false (by rw [hpx, hqy]; simp; omega) (by omega) _
  · rw [if_neg h1] at hpx
    rw [if_neg h2] at hqy
    rw [if_pos (by simp [h1, h2])]
    refine plus_ok (by omega) (by omega) (by omega) ?_
    rw [show (x : Int) + (y : Int) = ((x + y : Nat) : Int) by push_cast; rfl, show decide (p.num < 0) = false by simpa using h1]
    exact fin (x + y) false (by rw [hpx, hqy]; simp) (by omega) _
end Go.Proofs.YtieeiiibamkbmaaGreat.Am
namespace Go.Proofs.YtieeiiibamkbmaaGreat.Am
open Go
set_option linter.unusedVariables false
set_option linter.unusedSimpArgs false

theorem abs_sgn (neg : Bool) (n : Nat) : (if neg then -(n : Int) else (n : Int)).natAbs = n := by cases neg <;> simp
theorem inm_neg {q : Rat} (h : InM q) : InM (-q) := by
  unfold InM at *
  rw [Rat.neg_num, Rat.neg_den, Int.natAbs_neg]
  exact h
theorem fr_neg (q : Rat) : fr (-q) = (-q.num, (q.den : Int)) := by
  unfold fr
  rw [Rat.neg_num, Rat.neg_den]
theorem sub_ok {p q : Rat} (hp : InM p) (hq : InM q) {K : Frac × Int → Prop} (h : K (res (p - q))) : ratio_Sub (fr p) (fr q) K := by
  unfold ratio_Sub
  refine valid_yes hp ?_
  rw [if_neg (by simp)]
  refine valid_yes hq ?_
  unfold ratio_Sub_j2
  rw [if_neg (by simp)]
  have hq1 := hq.1
  have : (wI64 (0 - (fr q).1), (fr q).2) = fr (-q) := by
    rw [fr_neg]
    show (wI64 (0 - q.num), (q.den : Int)) = _
    rw [wI_id (x := 0 - q.num) (by omega) (by omega), Int.zero_sub]
  rw [this]
  refine add_ok hp (inm_neg hq) ?_
  rw [Rat.sub_eq_add_neg] at h
  exact h
theorem mul_ok {p q : Rat} (hp : InM p) (hq : InM q) {K : Frac × Int → Prop} (h : K (res (p * q))) : ratio_Mul (fr p) (fr q) K := by
  unfold ratio_Mul
  refine valid_yes hp ?_
  rw [if_neg (by simp)]
  refine valid_yes hq ?_
  unfold ratio_Mul_j2
  rw [if_neg (by simp)]
  have hpd := hp.2
  have hqd := hq.2
  have hp1 := hp.1
  have hq1 := hq.1
  have hpp := p.den_pos
  have hqp := q.den_pos
  refine size_ok (inm_isi hp) ?_
  rw [show wU64 (fr q).2 = ((q.den : Nat) : Int) from wU_nat (by omega), show wU64 (fr p).2 = ((p.den : Nat) : Int) from wU_nat (by omega)]
  refine gcd_ok (by omega) (by omega) (size_ok (inm_isi hq) (gcd_ok (by omega) (by omega) (size_ok (inm_isi hp) ?_)))
  have hg : Int.gcd ((fr p).1.natAbs : Int) (q.den : Int) = Nat.gcd p.num.natAbs q.den := by simp [Int.gcd]
  have hh : Int.gcd ((fr q).1.natAbs : Int) (p.den : Int) = Nat.gcd q.num.natAbs p.den := by simp [Int.gcd]
  rw [hg, hh]
  have hgp : 0 < Nat.gcd p.num.natAbs q.den := Nat.gcd_pos_of_pos_right _ hqp
  have hhp : 0 < Nat.gcd q.num.natAbs p.den := Nat.gcd_pos_of_pos_right _ hpp
  rw [if_neg (by omega)]
  refine size_ok (inm_isi hq) ?_
  rw [if_neg (by omega), tdiv_nat, tdiv_nat]
  obtain ⟨a1, ha1⟩ := Nat.gcd_dvd_left p.num.natAbs q.den
  obtain ⟨d1, hd1⟩ := Nat.gcd_dvd_right p.num.natAbs q.den
  obtain ⟨b1, hb1⟩ := Nat.gcd_dvd_left q.num.natAbs p.den
  obtain ⟨c1, hc1⟩ := Nat.gcd_dvd_right q.num.natAbs p.den
  have cop1 : Nat.Coprime a1 d1 := by
    have := Nat.gcd_mul_left (Nat.gcd p.num.natAbs q.den) a1 d1
    rw [← ha1, ← hd1] at this
    exact Nat.eq_of_mul_eq_mul_left hgp (by rw [← this, Nat.mul_one])
  have cop2 : Nat.Coprime b1 c1 := by
    have := Nat.gcd_mul_left (Nat.gcd q.num.natAbs p.den) b1 c1
    rw [← hb1, ← hc1] at this
    exact Nat.eq_of_mul_eq_mul_left hhp (by rw [← this, Nat.mul_one])
  have cop3 : Nat.Coprime a1 c1 := Nat.Coprime.coprime_dvd_left ⟨_, by rw [Nat.mul_comm]; exact ha1⟩ (Nat.Coprime.coprime_dvd_right ⟨_, by rw [Nat.mul_comm]; exact hc1⟩ p.reduced)
  have cop4 : Nat.Coprime b1 d1 := Nat.Coprime.coprime_dvd_left ⟨_, by rw [Nat.mul_comm]; exact hb1⟩ (Nat.Coprime.coprime_dvd_right ⟨_, by rw [Nat.mul_comm]; exact hd1⟩ q.reduced)
  generalize Nat.gcd p.num.natAbs q.den = g at *
  generalize Nat.gcd q.num.natAbs p.den = k at *
  have e1 : (fr p).1.natAbs / g = a1 := by
    show p.num.natAbs / g = a1
    rw [ha1, Nat.mul_div_cancel_left _ hgp]
  have e2 : (fr q).1.natAbs / k = b1 := by
    show q.num.natAbs / k = b1
    rw [hb1, Nat.mul_div_cancel_left _ hhp]
  rw [e1, e2, tdiv_nat, tdiv_nat]
  have e3 : p.den / k = c1 := by rw [hc1, Nat.mul_div_cancel_left _ hhp]
  have e4 : q.den / g = d1 := by rw [hd1, Nat.mul_div_cancel_left _ hgp]
  rw [e3, e4]
  have la : a1 ≤ p.num.natAbs := by rw [ha1]; exact Nat.le_mul_of_pos_left _ hgp
  have lb : b1 ≤ q.num.natAbs := by rw [hb1]; exact Nat.le_mul_of_pos_left _ hhp
  have lc : c1 ≤ p.den := by rw [hc1]; exact Nat.le_mul_of_pos_left _ hhp
  have ld : d1 ≤ q.den := by rw [hd1]; exact Nat.le_mul_of_pos_left _ hgp
  rw [wU_nat (n := a1) (by omega), wU_nat (n := b1) (by omega), wU_nat (n := c1) (by omega), wU_nat (n := d1) (by omega)]
  have hc0 : 0 < c1 := Nat.pos_of_ne_zero (fun e => by subst e; omega)
  have hd0 : 0 < d1 := Nat.pos_of_ne_zero (fun e => by subst e; omega)
  refine product_ok (u_nat (by omega)) (u_nat (by omega)) ?_
  rw [if_neg (by omega), if_neg (by omega)]
  refine product_ok (u_nat (by omega)) (u_nat (by omega)) ?_
  -- the parts of the product
  have key : ∀ neg : Bool, p.num * q.num = (if neg then -((p.num.natAbs * q.num.natAbs : Nat) : Int) else ((p.num.natAbs * q.num.natAbs : Nat) : Int)) →
      (p * q).num = (if neg then -((a1 * b1 : Nat) : Int) else ((a1 * b1 : Nat) : Int)) ∧ (p * q).den = c1 * d1 := by
    intro neg hneg
    have hq0 : p * q = ((if neg then -((a1 * b1 : Nat) : Int) else ((a1 * b1 : Nat) : Int) : Int) : Rat) / ((c1 * d1 : Nat) : Int) := by
      have e5 : p * q = ((p.num * q.num : Int) : Rat) / ((p.den * q.den : Int) : Rat) := by
        have h1 := q_eq p
        have h2 := q_eq q
        have f1 : ((p.num * q.num : Int) : Rat) = (p.num : Rat) * (q.num : Rat) := by push_cast; rfl
        have f2 : ((p.den * q.den : Int) : Rat) = ((p.den : Int) : Rat) * ((q.den : Int) : Rat) := by push_cast; rfl
        have f3 : ((p.den : Int) : Rat) ≠ 0 := cast_ne (by omega)
        have f4 : ((q.den : Int) : Rat) ≠ 0 := cast_ne (by omega)
        rw [f1, f2]
        generalize (p.num : Rat) = x at *
        generalize (q.num : Rat) = y at *
        generalize ((p.den : Int) : Rat) = z at *
        generalize ((q.den : Int) : Rat) = w at *
        subst h1 h2
        grind
      rw [e5]
      have hcd : 0 < c1 * d1 := Nat.mul_pos hc0 hd0
      refine rdiv (Int.mul_ne_zero (by omega) (by omega)) (by omega) ?_
      rw [hneg, ha1, hb1]
      have ed1 : (q.den : Int) = (g : Int) * d1 := by rw [hd1]; push_cast; rfl
      have ec1 : (p.den : Int) = (k : Int) * c1 := by rw [hc1]; push_cast; rfl
      rw [ed1, ec1]
      cases neg
      · simp only [Bool.false_eq_true, if_false]; push_cast; grind
      · simp only [if_true]; push_cast; grind
    have habs : (if neg then -((a1 * b1 : Nat) : Int) else ((a1 * b1 : Nat) : Int)).natAbs = a1 * b1 := abs_sgn neg _
    have hcd : 0 < c1 * d1 := Nat.mul_pos hc0 hd0
    have := nd_of (if neg then -((a1 * b1 : Nat) : Int) else ((a1 * b1 : Nat) : Int)) ((c1 * d1 : Nat) : Int) (by omega) (by
      rw [habs]
      simp only [Int.natAbs_natCast]
      exact Nat.Coprime.mul_left (Nat.Coprime.mul_right cop3 cop1) (Nat.Coprime.mul_right cop2 cop4))
    rw [← hq0] at this
    exact ⟨this.1, by exact_mod_cast this.2⟩
  have fin : ∀ neg : Bool, (p * q).num = (if neg then -((a1 * b1 : Nat) : Int) else ((a1 * b1 : Nat) : Int)) → (p * q).den = c1 * d1 → (a1 * b1 < 18446744073709551616 → c1 * d1 < 18446744073709551616 → ratio_signed neg ((a1 * b1 : Nat) : Int) ((c1 * d1 : Nat) : Int) K) := by
    intro neg h1 h2 h3 h4
    exact signed_ok h1 (by rw [h2]) (Int.natCast_nonneg _) (u_nat h3).2 (u_nat h4).2 h
  have hsign : ∃ neg : Bool, p.num * q.num = (if neg then -((p.num.natAbs * q.num.natAbs : Nat) : Int) else ((p.num.natAbs * q.num.natAbs : Nat) : Int)) ∧ (0 < a1 * b1 → neg = !((decide (p.num < 0)) == (decide (q.num < 0)))) ∧ (¬ 0 < a1 * b1 → neg = false) := by
    by_cases hz : 0 < a1 * b1
    · refine ⟨!((decide (p.num < 0)) == (decide (q.num < 0))), ?_, fun _ => rfl, fun h => absurd hz h⟩
      by_cases h1 : p.num < 0 <;> by_cases h2 : q.num < 0
      · simp only [h1, h2, decide_true, beq_self_eq_true, Bool.not_true, Bool.false_eq_true, if_false]
        rw [Int.natCast_mul]
        rw [show ((p.num.natAbs : Nat) : Int) = -p.num by omega, show ((q.num.natAbs : Nat) : Int) = -q.num by omega]; grind
      · simp only [h1, h2, decide_true, decide_false]
        rw [Int.natCast_mul]
        rw [show ((p.num.natAbs : Nat) : Int) = -p.num by omega, show ((q.num.natAbs : Nat) : Int) = q.num by omega]; simp [Int.neg_mul]
      · simp only [h1, h2, decide_true, decide_false]
        rw [Int.natCast_mul]
        rw [show ((p.num.natAbs : Nat) : Int) = p.num by omega, show ((q.num.natAbs : Nat) : Int) = -q.num by omega]; simp [Int.mul_neg]
      · simp only [h1, h2, decide_false, beq_self_eq_true, Bool.not_true, Bool.false_eq_true, if_false]
        rw [Int.natCast_mul]
        rw [show ((p.num.natAbs : Nat) : Int) = p.num by omega, show ((q.num.natAbs : Nat) : Int) = q.num by omega]
    · refine ⟨false, ?_, fun h => absurd h hz, fun _ => rfl⟩
      have hz' : a1 * b1 = 0 := by omega
      have : p.num.natAbs * q.num.natAbs = 0 := by
        rw [ha1, hb1, show g * a1 * (k * b1) = g * k * (a1 * b1) by simp only [Nat.mul_assoc, Nat.mul_left_comm, Nat.mul_comm], hz', Nat.mul_zero]
      rw [this]
      rcases Nat.mul_eq_zero.1 this with h1 | h1
      · rw [Int.natAbs_eq_zero.1 h1]; simp
      · rw [Int.natAbs_eq_zero.1 h1]; simp
  obtain ⟨neg, hn1, hn2, hn3⟩ := hsign
  obtain ⟨k1, k2⟩ := key neg hn1
  have habs : (p * q).num.natAbs = a1 * b1 := by rw [k1]; exact abs_sgn neg _
  rw [show (a1 : Int) * (b1 : Int) = ((a1 * b1 : Nat) : Int) by push_cast; rfl, show (c1 : Int) * (d1 : Int) = ((c1 * d1 : Nat) : Int) by push_cast; rfl]
  generalize a1 * b1 = n1 at *
  generalize c1 * d1 = n2 at *
  have hbig : (18446744073709551616 ≤ n1 ∨ 18446744073709551616 ≤ n2) → K ((0, 0), 5) := fun hb => by
    rw [res_out (fun hi => by have h1 := hi.1; have h2 := hi.2; omega)] at h
    exact h
  rw [nat_uu, nat_uu]
  by_cases h1 : 18446744073709551616 ≤ n1
  · rw [if_pos (by simp only [decide_eq_true_eq]; omega)]
    unfold ratio_Mul_j3
    rw [if_pos rfl]
    exact hbig (.inl h1)
  · rw [if_neg (by simp only [decide_eq_true_eq]; omega)]
    unfold ratio_Mul_j3
    by_cases h2 : 18446744073709551616 ≤ n2
    · rw [if_pos (by simp only [decide_eq_true_eq]; omega)]
      exact hbig (.inr h2)
    · rw [if_neg (by simp only [decide_eq_true_eq]; omega)]
      simp only []
      rw [Nat.mod_eq_of_lt (show n1 < 18446744073709551616 by omega), Nat.mod_eq_of_lt (show n2 < 18446744073709551616 by omega)]
      by_cases hz : 0 < n1
      · rw [if_pos (by simp only [decide_eq_true_eq]; omega)]
        have := fin neg k1 k2 (by omega) (by omega)
        rw [hn2 hz] at this
        exact this
      · rw [if_neg (by simp only [decide_eq_true_eq]; omega)]
        have := fin neg k1 k2 (by omega) (by omega)
        rw [hn3 hz] at this
        exact this
end Go.Proofs.YtieeiiibamkbmaaGreat.Am
