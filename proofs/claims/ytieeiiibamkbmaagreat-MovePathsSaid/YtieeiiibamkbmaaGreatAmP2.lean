/- Plain laws of exact fractions: order, and the law's own fractions. Conditions: valid fractions. -/
import Derived.Test.YtieeiiibamkbmaaGreatAmP1
namespace Go.Proofs.YtieeiiibamkbmaaGreat.Am
open Go
set_option linter.unusedVariables false
set_option linter.unusedSimpArgs false

theorem num_ne {q : Rat} (h : q ≠ 0) : q.num ≠ 0 := fun h0 => h (Rat.num_eq_zero.1 h0)
theorem inv_fr {q : Rat} (h : q ≠ 0) : fr q⁻¹ = if q.num < 0 then (-(q.den : Int), -q.num) else ((q.den : Int), q.num) := by
  have hn := num_ne h
  unfold fr
  rw [Rat.num_inv, Rat.den_inv]
  by_cases hs : q.num < 0
  · rw [if_pos hs, Int.sign_eq_neg_one_of_neg hs]
    refine Prod.ext ?_ ?_
    · show -1 * (q.den : Int) = _; omega
    · show ((if q.num = 0 then 1 else q.num.natAbs : Nat) : Int) = _
      rw [if_neg hn]; show ((q.num.natAbs : Nat) : Int) = -q.num; omega
  · rw [if_neg hs, Int.sign_eq_one_of_pos (by omega)]
    refine Prod.ext ?_ ?_
    · show 1 * (q.den : Int) = _; omega
    · show ((if q.num = 0 then 1 else q.num.natAbs : Nat) : Int) = _
      rw [if_neg hn]; show ((q.num.natAbs : Nat) : Int) = q.num; omega
theorem inm_inv {q : Rat} (h : q ≠ 0) (hq : InM q) : InM q⁻¹ := by
  have hn := num_ne h
  have e := inv_fr h
  have e1 : (q⁻¹).num = (fr q⁻¹).1 := rfl
  have e2 : ((q⁻¹).den : Int) = (fr q⁻¹).2 := rfl
  rw [e] at e1 e2
  obtain ⟨h1, h2⟩ := hq
  split at e1
  · rw [if_pos (by assumption)] at e2
    simp only at e1 e2
    exact ⟨by omega, by omega⟩
  · rw [if_neg (by assumption)] at e2
    simp only at e1 e2
    exact ⟨by omega, by omega⟩
theorem div_ok {p q : Rat} (hp : InM p) (hq : InM q) (h0 : q ≠ 0) {K : Frac × Int → Prop} (h : K (res (p / q))) : ratio_Div (fr p) (fr q) K := by
  unfold ratio_Div
  refine valid_yes hp ?_
  rw [if_neg (by simp)]
  refine valid_yes hq ?_
  unfold ratio_Div_j2
  rw [if_neg (by simp)]
  have hn := num_ne h0
  have hq1 := hq.1
  have hq2 := hq.2
  rw [if_neg (by simpa using hn)]
  rw [Rat.div_def] at h
  have e := inv_fr h0
  by_cases hs : q.num < 0
  · rw [if_pos (by simpa using hs)]
    rw [if_pos hs] at e
    have : (wI64 (0 - (fr q).2), wI64 (0 - (fr q).1)) = fr q⁻¹ := by
      show (wI64 (0 - (q.den : Int)), wI64 (0 - q.num)) = _
      rw [e, wI_id (x := 0 - (q.den : Int)) (by omega) (by omega), wI_id (x := 0 - q.num) (by omega) (by omega), Int.zero_sub, Int.zero_sub]
    rw [this]
    exact mul_ok hp (inm_inv h0 hq) h
  · rw [if_neg (by simpa using hs)]
    rw [if_neg hs] at e
    have : ((fr q).2, (fr q).1) = fr q⁻¹ := by rw [e]
    rw [this]
    exact mul_ok hp (inm_inv h0 hq) h
theorem div_zero {p : Rat} (hp : InM p) {K : Frac × Int → Prop} (h : K ((0, 0), 16)) : ratio_Div (fr p) (fr 0) K := by
  unfold ratio_Div
  refine valid_yes hp ?_
  rw [if_neg (by simp)]
  refine valid_yes (by decide) ?_
  unfold ratio_Div_j2
  rw [if_neg (by simp), if_pos (by decide)]
  exact h

/-! The order. -/
def cmpQ (p q : Rat) : Int := if p < q then -1 else if q < p then 1 else 0
theorem cmp_ok {p q : Rat} (hp : InM p) (hq : InM q) {K : Frac → Prop} (h : K (cmpQ p q, 0)) : ratio_Cmp (fr p) (fr q) K := by
  unfold ratio_Cmp
  refine valid_yes hp ?_
  rw [if_neg (by simp)]
  refine valid_yes hq ?_
  unfold ratio_Cmp_j2
  rw [if_neg (by simp)]
  have hpd := hp.2
  have hqd := hq.2
  have hp1 := hp.1
  have hq1 := hq.1
  have hpp := p.den_pos
  have hqp := q.den_pos
  refine size_ok (inm_isi hp) ?_
  rw [show wU64 (fr q).2 = ((q.den : Nat) : Int) from wU_nat (by omega), show wU64 (fr p).2 = ((p.den : Nat) : Int) from wU_nat (by omega)]
  refine product_ok (u_nat (by omega)) (u_nat (by omega)) (size_ok (inm_isi hq) (product_ok (u_nat (by omega)) (u_nat (by omega)) ?_))
  have lt1 : p < q ↔ p.num * q.den < q.num * p.den := Rat.lt_iff p q
  have lt2 : q < p ↔ q.num * p.den < p.num * q.den := Rat.lt_iff q p
  have j3 : ∀ x y : Int, cmpQ p q = (if x < y then -1 else if y < x then 1 else 0) → ratio_Cmp_j3 (uu x) (uu y) (fun rt_4 rt_5 => K (rt_4, rt_5)) := by
    intro x y hxy
    rw [hxy] at h
    unfold ratio_Cmp_j3
    refine less_ok ?_
    by_cases h1 : x < y
    · rw [if_pos h1] at h
      rw [if_pos (by simpa using h1)]; exact h
    · rw [if_neg h1] at h
      rw [if_neg (by simpa using h1)]
      refine less_ok ?_
      by_cases h2 : y < x
      · rw [if_pos h2] at h
        rw [if_pos (by simpa using h2)]; exact h
      · rw [if_neg h2] at h
        rw [if_neg (by simpa using h2)]; exact h
  have xpos : 0 < (p.den : Int) := by omega
  have ypos : 0 < (q.den : Int) := by omega
  have c1 : p.num < 0 → p.num * (q.den : Int) < 0 := fun h => Int.mul_neg_of_neg_of_pos h ypos
  have c2 : q.num < 0 → q.num * (p.den : Int) < 0 := fun h => Int.mul_neg_of_neg_of_pos h xpos
  have c3 : 0 ≤ p.num → 0 ≤ p.num * (q.den : Int) := fun h => Int.mul_nonneg h (by omega)
  have c4 : 0 ≤ q.num → 0 ≤ q.num * (p.den : Int) := fun h => Int.mul_nonneg h (by omega)
  have x1 : p.num < 0 → ((fr p).1.natAbs : Int) * (q.den : Int) = -(p.num * q.den) := fun h => by
    show ((p.num.natAbs : Nat) : Int) * _ = _
    rw [show ((p.num.natAbs : Nat) : Int) = -p.num by omega, Int.neg_mul]
  have x2 : ¬ p.num < 0 → ((fr p).1.natAbs : Int) * (q.den : Int) = p.num * q.den := fun h => by
    show ((p.num.natAbs : Nat) : Int) * _ = _
    rw [show ((p.num.natAbs : Nat) : Int) = p.num by omega]
  have y1 : q.num < 0 → ((fr q).1.natAbs : Int) * (p.den : Int) = -(q.num * p.den) := fun h => by
    show ((q.num.natAbs : Nat) : Int) * _ = _
    rw [show ((q.num.natAbs : Nat) : Int) = -q.num by omega, Int.neg_mul]
  have y2 : ¬ q.num < 0 → ((fr q).1.natAbs : Int) * (p.den : Int) = q.num * p.den := fun h => by
    show ((q.num.natAbs : Nat) : Int) * _ = _
    rw [show ((q.num.natAbs : Nat) : Int) = q.num by omega]
  have hc : cmpQ p q = if p.num * q.den < q.num * p.den then -1 else if q.num * p.den < p.num * q.den then 1 else 0 := by
    unfold cmpQ
    simp only [lt1, lt2]
  by_cases h1 : p.num < 0 <;> by_cases h2 : q.num < 0
  · rw [if_neg (by simp [h1, h2]), if_pos (by simpa using h1)]
    refine j3 _ _ ?_
    rw [x1 h1, y1 h2, hc]
    grind
  · rw [if_pos (by simp [h1, h2]), if_pos (by simpa using h1)]
    have := c1 h1; have := c4 (by omega)
    rw [hc, if_pos (by omega)] at h
    exact h
  · rw [if_pos (by simp [h1, h2]), if_neg (by simpa using h1)]
    have := c3 (by omega); have := c2 h2
    rw [hc, if_neg (by omega), if_pos (by omega)] at h
    exact h
  · rw [if_neg (by simp [h1, h2]), if_neg (by simpa using h1)]
    refine j3 _ _ ?_
    rw [x2 h1, y2 h2, hc]
end Go.Proofs.YtieeiiibamkbmaaGreat.Am
namespace Go.Proofs.YtieeiiibamkbmaaGreat.Am
open Go
set_option linter.unusedVariables false
set_option linter.unusedSimpArgs false

theorem rsize_ok {n : Int} (hn : IsI n) {K : Int → Prop} (h : K (n.natAbs : Int)) : ref02_Size n K := size_ok hn h
theorem and1 {x : Int} (h : 0 ≤ x) (h' : x < 18446744073709551616) : bAnd .u64 x 1 = x % 2 := by
  show IntKind.u64.wrap _ = _
  have e : (BitVec.ofInt 64 x &&& BitVec.ofInt 64 1).toNat = x.toNat % 2 ^ 1 := by
    rw [BitVec.toNat_and, ofInt_nat h h']
    exact Nat.and_two_pow_sub_one_eq_mod x.toNat 1
  show IntKind.u64.wrap (((BitVec.ofInt 64 x &&& BitVec.ofInt 64 1).toNat : Nat) : Int) = _
  rw [e]
  have : ((x.toNat % 2 ^ 1 : Nat) : Int) = x % 2 := by omega
  rw [this]
  exact IntWalk.u64_in _ (by omega)
theorem uu_even {x : Int} (h : 0 ≤ x) : (bAnd .u64 (uu x).2 1 == 0) = decide (x % 2 = 0) := by
  have h1 : (uu x).2 = x % 18446744073709551616 := rfl
  rw [h1, and1 (by omega) (by omega), Bool.eq_iff_iff]
  simp only [beq_iff_eq, decide_eq_true_eq]
  omega
theorem uu_zero {x : Int} (h : 0 ≤ x) : ((uu x).1 == 0 && (uu x).2 == 0) = decide (x = 0) := by
  rw [Bool.eq_iff_iff]
  simp only [Bool.and_eq_true, beq_iff_eq, decide_eq_true_eq, uu]
  omega
theorem half_ok {x : Int} (h : 0 ≤ x) (h' : x < 340282366920938463463374607431768211456) {K : U → Prop} (hk : K (uu (x / 2))) : ref02_Half (uu x) K := by
  unfold ref02_Half
  have e : (Int.fdiv (uu x).1 (2 ^ 1), wU64 (Int.fdiv (uu x).2 (2 ^ 1) + wU64 ((uu x).1 * 2 ^ 63))) = uu (x / 2) := by
    rw [Int.fdiv_eq_ediv_of_nonneg _ (by decide), Int.fdiv_eq_ediv_of_nonneg _ (by decide), wU_mod, wU_mod]
    simp only [uu]
    have e1 : (2 : Int) ^ 1 = 2 := by decide
    have e2 : (2 : Int) ^ 63 = 9223372036854775808 := by decide
    rw [e1, e2]
    refine Prod.ext ?_ ?_
    · simp only []; omega
    · simp only []; omega
  rw [e]; exact hk
theorem uu1 (x : Int) : (uu x).1 = x / 18446744073709551616 := rfl
theorem uu2 (x : Int) : (uu x).2 = x % 18446744073709551616 := rfl
theorem rless_ok {x y : Int} {K : Bool → Prop} (h : K (decide (x < y))) : ref02_Less (uu x) (uu y) K := by
  unfold ref02_Less
  by_cases h1 : (uu x).1 < (uu y).1
  · rw [if_pos (by simpa using h1)]
    rw [uu1, uu1] at h1
    rw [show decide (x < y) = true by simp only [decide_eq_true_eq]; omega] at h
    exact h
  · rw [if_neg (by simpa using h1)]
    by_cases h2 : (uu x).1 = (uu y).1
    · rw [if_pos (by simpa using h2)]
      rw [uu1, uu1] at h1 h2
      rw [show decide (x < y) = decide ((uu x).2 < (uu y).2) by rw [Bool.eq_iff_iff, decide_eq_true_eq, decide_eq_true_eq, uu2, uu2]; omega] at h
      exact h
    · rw [if_neg (by simpa using h2)]
      rw [uu1, uu1] at h1 h2
      rw [show decide (x < y) = false by simp only [decide_eq_false_iff_not]; omega] at h
      exact h
theorem rplus_ok {x y : Int} (hx : 0 ≤ x) (hy : 0 ≤ y) (hs : x + y < 340282366920938463463374607431768211456) {K : U → Prop} (h : K (uu (x + y))) : ref02_Plus (uu x) (uu y) K := by
  unfold ref02_Plus
  by_cases h1 : wU64 ((uu x).2 + (uu y).2) < (uu x).2
  · rw [if_pos (by simpa using h1)]
    rw [wU_mod, uu2, uu2] at h1
    have : (wU64 (wU64 ((uu x).1 + (uu y).1) + 1), wU64 ((uu x).2 + (uu y).2)) = uu (x + y) := by
      rw [wU_mod, wU_mod, wU_mod]
      refine Prod.ext ?_ ?_
      · simp only [uu]; omega
      · simp only [uu]; omega
    rw [this]; exact h
  · rw [if_neg (by simpa using h1)]
    rw [wU_mod, uu2, uu2] at h1
    have : (wU64 ((uu x).1 + (uu y).1), wU64 ((uu x).2 + (uu y).2)) = uu (x + y) := by
      rw [wU_mod, wU_mod]
      refine Prod.ext ?_ ?_
      · simp only [uu]; omega
      · simp only [uu]; omega
    rw [this]; exact h
/-- .. with wrapping. -/
theorem rminus_wrap {x y : Int} (hx : 0 ≤ x) (hx' : x < 340282366920938463463374607431768211456) (hy : 0 ≤ y) (hy' : y < 340282366920938463463374607431768211456) {K : U → Prop} (h : K (uu ((x - y) % 340282366920938463463374607431768211456))) : ref02_Minus (uu x) (uu y) K := by
  unfold ref02_Minus
  by_cases h1 : (uu x).2 < (uu y).2
  · rw [if_pos (by simpa using h1)]
    rw [uu2, uu2] at h1
    have : (wU64 (wU64 ((uu x).1 - (uu y).1) - 1), wU64 ((uu x).2 - (uu y).2)) = uu ((x - y) % 340282366920938463463374607431768211456) := by
      rw [wU_mod, wU_mod, wU_mod]
      refine Prod.ext ?_ ?_
      · simp only [uu]; omega
      · simp only [uu]; omega
    rw [this]; exact h
  · rw [if_neg (by simpa using h1)]
    rw [uu2, uu2] at h1
    have : (wU64 ((uu x).1 - (uu y).1), wU64 ((uu x).2 - (uu y).2)) = uu ((x - y) % 340282366920938463463374607431768211456) := by
      rw [wU_mod, wU_mod]
      refine Prod.ext ?_ ?_
      · simp only [uu]; omega
      · simp only [uu]; omega
    rw [this]; exact h
theorem rminus_ok {x y : Int} (hx' : x < 340282366920938463463374607431768211456) (hy : 0 ≤ y) (hs : y ≤ x) {K : U → Prop} (h : K (uu (x - y))) : ref02_Minus (uu x) (uu y) K := by
  refine rminus_wrap (by omega) hx' hy (by omega) ?_
  rw [Int.emod_eq_of_lt (by omega) (by omega)]
  exact h
theorem half_nat {x : Nat} (h' : x < 340282366920938463463374607431768211456) {K : U → Prop} (hk : K (uu ((x / 2 : Nat) : Int))) : ref02_Half (uu (x : Int)) K :=
  half_ok (by omega) (by omega) (by rw [show (x : Int) / 2 = ((x / 2 : Nat) : Int) by omega]; exact hk)
theorem even_nat (x : Nat) : (bAnd .u64 (uu (x : Int)).2 1 == 0) = decide (x % 2 = 0) := by
  rw [uu_even (by omega), Bool.eq_iff_iff]
  simp only [decide_eq_true_eq]
  omega

/-! The binary greatest common divisor. -/
theorem odd_of_gcd {a b g : Nat} (ha : a % 2 = 0) (hg : g % 2 = 1) (h : Nat.gcd a b = g) : Nat.gcd (a / 2) b = g := by
  have e : a = 2 * (a / 2) := by omega
  generalize a / 2 = c at *
  subst e
  apply Nat.dvd_antisymm
  · rw [← h]
    exact Nat.dvd_gcd (Nat.dvd_trans (Nat.gcd_dvd_left _ _) ⟨2, Nat.mul_comm _ _⟩) (Nat.gcd_dvd_right _ _)
  · refine Nat.dvd_gcd ?_ (by rw [← h]; exact Nat.gcd_dvd_right _ _)
    have h1 : g ∣ 2 * c := by rw [← h]; exact Nat.gcd_dvd_left _ _
    have h2 : Nat.Coprime g 2 := by
      show Nat.gcd g 2 = 1
      rw [Nat.gcd_comm, Nat.gcd_rec, hg]
      decide
    exact h2.dvd_of_dvd_mul_left h1
theorem gl4_ok {tw b : Int} {b4 : U} {g : Nat} {B : Nat} (hg : g % 2 = 1) (a : Nat) (ha : 0 < a) (ha' : a < 340282366920938463463374607431768211456) (h : Nat.gcd a B = g) :
    ∃ c : Nat, c ≤ a ∧ 0 < c ∧ c % 2 = 1 ∧ Nat.gcd c B = g ∧ ∀ k0 : Int → U → U → U → Prop, k0 tw (uu (c : Int)) (uu b) b4 → ref02_Gcd_l4 tw (uu (a : Int)) (uu b) b4 k0 := by
  induction a using Nat.strongRecOn with
  | ind a ih =>
    by_cases h1 : a % 2 = 0
    · obtain ⟨c, c1, c2, c3, c4, c5⟩ := ih (a / 2) (by omega) (by omega) (by omega) (odd_of_gcd h1 hg h)
      refine ⟨c, by omega, c2, c3, c4, fun k0 hk => ?_⟩
      obtain ⟨n, hn⟩ := c5 k0 hk
      refine ⟨n + 1, ?_⟩
      unfold ref02_Gcd_l4N
      rw [if_pos (by rw [even_nat]; simpa using h1)]
      exact half_nat ha' hn
    · refine ⟨a, by omega, ha, by omega, h, fun k0 hk => ⟨1, ?_⟩⟩
      unfold ref02_Gcd_l4N
      rw [if_neg (by rw [even_nat]; simpa using h1)]
      exact hk
theorem gl5_ok {tw a : Int} {b4 : U} {g : Nat} {A : Nat} (hg : g % 2 = 1) (b : Nat) (ha : 0 < b) (ha' : b < 340282366920938463463374607431768211456) (h : Nat.gcd b A = g) :
    ∃ c : Nat, c ≤ b ∧ 0 < c ∧ c % 2 = 1 ∧ Nat.gcd c A = g ∧ ∀ k0 : Int → U → U → U → Prop, k0 tw (uu a) (uu (c : Int)) b4 → ref02_Gcd_l5 tw (uu a) (uu (b : Int)) b4 k0 := by
  induction b using Nat.strongRecOn with
  | ind b ih =>
    by_cases h1 : b % 2 = 0
    · obtain ⟨c, c1, c2, c3, c4, c5⟩ := ih (b / 2) (by omega) (by omega) (by omega) (odd_of_gcd h1 hg h)
      refine ⟨c, by omega, c2, c3, c4, fun k0 hk => ?_⟩
      obtain ⟨n, hn⟩ := c5 k0 hk
      refine ⟨n + 1, ?_⟩
      unfold ref02_Gcd_l5N
      rw [if_pos (by rw [even_nat]; simpa using h1)]
      exact half_nat ha' hn
    · refine ⟨b, by omega, ha, by omega, h, fun k0 hk => ⟨1, ?_⟩⟩
      unfold ref02_Gcd_l5N
      rw [if_neg (by rw [even_nat]; simpa using h1)]
      exact hk
theorem zero_nat (x : Nat) : ((uu (x : Int)).1 == 0 && (uu (x : Int)).2 == 0) = decide (x = 0) := by
  rw [uu_zero (by omega), Bool.eq_iff_iff]
  simp only [decide_eq_true_eq]
  omega
theorem gl3_ok {tw : Int} {b4 : U} {g : Nat} (hg : g % 2 = 1) {k0 : Int → U → U → Prop} (hk : k0 tw (uu (g : Int)) b4) : ∀ (s a b : Nat), a + b ≤ s → 0 < b → a < 340282366920938463463374607431768211456 → b < 340282366920938463463374607431768211456 → Nat.gcd a b = g →
    ref02_Gcd_l3 tw (uu (a : Int)) (uu (b : Int)) b4 k0 := by
  intro s
  induction s with
  | zero => intro a b h1 h2; omega
  | succ s ih =>
    intro a b hs hb ha' hb' h
    by_cases h0 : a = 0
    · refine ⟨1, ?_⟩
      unfold ref02_Gcd_l3N
      rw [if_neg (by rw [zero_nat]; simpa using h0)]
      subst h0
      rw [Nat.gcd_zero_left] at h
      subst h
      exact hk
    · obtain ⟨c, c1, c2, c3, c4, c5⟩ := gl4_ok (tw := tw) (b := (b : Int)) (b4 := b4) (B := b) hg a (by omega) ha' h
      rw [Nat.gcd_comm] at c4
      obtain ⟨d, d1, d2, d3, d4, d5⟩ := gl5_ok (tw := tw) (a := (c : Int)) (b4 := b4) (A := c) hg b hb hb' c4
      by_cases hlt : c < d
      · obtain ⟨n, hn⟩ := ih (d - c) c (by omega) c2 (by omega) (by omega) (by
          rw [Nat.gcd_comm, Nat.gcd_sub_self_right (by omega), Nat.gcd_comm]; exact d4)
        refine ⟨n + 1, ?_⟩
        unfold ref02_Gcd_l3N
        rw [if_pos (by rw [zero_nat]; simpa using h0)]
        refine c5 _ (d5 _ (rless_ok ?_))
        rw [if_pos (by simp only [decide_eq_true_eq]; omega)]
        refine rminus_ok (by omega) (by omega) (by omega) ?_
        rw [show (d : Int) - (c : Int) = ((d - c : Nat) : Int) by omega]
        exact hn
      · obtain ⟨n, hn⟩ := ih (c - d) d (by omega) d2 (by omega) (by omega) (by
          rw [Nat.gcd_comm, Nat.gcd_sub_self_right (by omega)]; exact d4)
        refine ⟨n + 1, ?_⟩
        unfold ref02_Gcd_l3N
        rw [if_pos (by rw [zero_nat]; simpa using h0)]
        refine c5 _ (d5 _ (rless_ok ?_))
        rw [if_neg (by simp only [decide_eq_true_eq]; omega)]
        refine rminus_ok (by omega) (by omega) (by omega) ?_
        rw [show (c : Int) - (d : Int) = ((c - d : Nat) : Int) by omega]
        exact hn
/-- .. with the twos put back. -/
theorem gl6_ok {b4 : U} {k0 : U → U → Prop} : ∀ (t b : Nat), b * 2 ^ t < 340282366920938463463374607431768211456 → t < 1000 → k0 (uu ((b * 2 ^ t : Nat) : Int)) b4 → ref02_Gcd_l6 (t : Int) (uu (b : Int)) b4 k0 := by
  intro t
  induction t with
  | zero =>
    intro b h ht hk
    refine ⟨1, ?_⟩
    unfold ref02_Gcd_l6N
    rw [if_neg (by simp)]
    simpa using hk
  | succ t ih =>
    intro b h ht hk
    have e : b * 2 ^ (t + 1) = (2 * b) * 2 ^ t := by rw [Nat.pow_succ]; simp only [Nat.mul_assoc, Nat.mul_left_comm, Nat.mul_comm]
    rw [e] at h hk
    obtain ⟨n, hn⟩ := ih (2 * b) h (by omega) hk
    refine ⟨n + 1, ?_⟩
    unfold ref02_Gcd_l6N
    rw [if_pos (by simp only [decide_eq_true_eq]; omega)]
    have h2 : 0 < 2 ^ t := Nat.pow_pos (by omega)
    have h3 : 2 * b ≤ 2 * b * 2 ^ t := Nat.le_mul_of_pos_right _ h2
    refine rplus_ok (by omega) (by omega) (by omega) ?_
    rw [show (b : Int) + (b : Int) = ((2 * b : Nat) : Int) by omega, show (((t + 1 : Nat) : Int) - 1) = (t : Int) by omega, wI_id (by omega) (by omega)]
    exact hn
theorem gl2_ok {b4 : U} {g : Nat} : ∀ (m a b t : Nat), a ≤ m → a * 2 ^ t < 340282366920938463463374607431768211456 → b * 2 ^ t < 340282366920938463463374607431768211456 → 0 < a → 0 < b → Nat.gcd a b * 2 ^ t = g →
    ∃ (a' b' t' : Nat), 0 < a' ∧ 0 < b' ∧ a' ≤ a ∧ b' ≤ b ∧ Nat.gcd a' b' % 2 = 1 ∧ Nat.gcd a' b' * 2 ^ t' = g ∧ t' < 1000 ∧ ∀ k0 : Int → U → U → U → Prop, k0 (t' : Int) (uu (a' : Int)) (uu (b' : Int)) b4 → ref02_Gcd_l2 (t : Int) (uu (a : Int)) (uu (b : Int)) b4 k0 := by
  intro m
  induction m with
  | zero => intro a b t h1; omega
  | succ m ih =>
    intro a b t hm ha hb ha0 hb0 hg
    have hp : 0 < 2 ^ t := Nat.pow_pos (by omega)
    have la : a ≤ a * 2 ^ t := Nat.le_mul_of_pos_right _ hp
    have lb : b ≤ b * 2 ^ t := Nat.le_mul_of_pos_right _ hp
    have lt : 2 ^ t ≤ a * 2 ^ t := Nat.le_mul_of_pos_left _ ha0
    have ht : t < 128 := by
      refine Nat.lt_of_not_le (fun hc => ?_)
      have := Nat.pow_le_pow_right (n := 2) (by omega) hc
      have e : (2 : Nat) ^ 128 = 340282366920938463463374607431768211456 := by decide
      omega
    by_cases h1 : a % 2 = 0
    · by_cases h2 : b % 2 = 0
      · have ea : a * 2 ^ t = a / 2 * 2 ^ (t + 1) := by
          rw [Nat.pow_succ, Nat.mul_comm (2 ^ t) 2, ← Nat.mul_assoc, Nat.div_mul_cancel (Nat.dvd_of_mod_eq_zero h1)]
        have eb : b * 2 ^ t = b / 2 * 2 ^ (t + 1) := by
          rw [Nat.pow_succ, Nat.mul_comm (2 ^ t) 2, ← Nat.mul_assoc, Nat.div_mul_cancel (Nat.dvd_of_mod_eq_zero h2)]
        have eg : Nat.gcd (a / 2) (b / 2) * 2 ^ (t + 1) = g := by
          rw [← hg]
          have : Nat.gcd (2 * (a / 2)) (2 * (b / 2)) = 2 * Nat.gcd (a / 2) (b / 2) := Nat.gcd_mul_left _ _ _
          rw [show 2 * (a / 2) = a by omega, show 2 * (b / 2) = b by omega] at this
          rw [this, Nat.pow_succ]
          simp only [Nat.mul_assoc, Nat.mul_left_comm, Nat.mul_comm]
        obtain ⟨a', b', t', i1, i2, i3, i4, i5, i6, i7, i8⟩ := ih (a / 2) (b / 2) (t + 1) (by omega) (by omega) (by omega) (by omega) (by omega) eg
        refine ⟨a', b', t', i1, i2, by omega, by omega, i5, i6, i7, fun k0 hk => ?_⟩
        obtain ⟨n, hn⟩ := i8 k0 hk
        refine ⟨n + 1, ?_⟩
        unfold ref02_Gcd_l2N
        rw [if_pos (by rw [even_nat]; simpa using h1), if_pos (by rw [even_nat]; simpa using h2)]
        refine half_nat (by omega) (half_nat (by omega) ?_)
        rw [wI_id (by omega) (by omega)]
        exact hn
      · refine ⟨a, b, t, ha0, hb0, by omega, by omega, ?_, hg, by omega, fun k0 hk => ⟨1, ?_⟩⟩
        · rcases Nat.mod_two_eq_zero_or_one (Nat.gcd a b) with h | h
          · exfalso
            have h3 : 2 ∣ Nat.gcd a b := Nat.dvd_of_mod_eq_zero h
            have := Nat.dvd_trans h3 (Nat.gcd_dvd_right a b)
            omega
          · exact h
        · unfold ref02_Gcd_l2N
          rw [if_pos (by rw [even_nat]; simpa using h1), if_neg (by rw [even_nat]; simpa using h2)]
          exact hk
    · refine ⟨a, b, t, ha0, hb0, by omega, by omega, ?_, hg, by omega, fun k0 hk => ⟨1, ?_⟩⟩
      · rcases Nat.mod_two_eq_zero_or_one (Nat.gcd a b) with h | h
        · exfalso
          have h3 : 2 ∣ Nat.gcd a b := Nat.dvd_of_mod_eq_zero h
          have := Nat.dvd_trans h3 (Nat.gcd_dvd_left a b)
          omega
        · exact h
      · unfold ref02_Gcd_l2N
        rw [if_neg (by rw [even_nat]; simpa using h1)]
        exact hk
theorem rgcd_ok {a b : Nat} (ha : a < 340282366920938463463374607431768211456) (hb : b < 340282366920938463463374607431768211456) (hb0 : 0 < b) {K : U → Prop} (h : K (uu ((Nat.gcd a b : Nat) : Int))) : ref02_Gcd (uu (a : Int)) (uu (b : Int)) K := by
  unfold ref02_Gcd
  by_cases h0 : a = 0
  · rw [if_pos (by rw [zero_nat]; simpa using h0)]
    subst h0
    rw [Nat.gcd_zero_left] at h
    exact h
  · rw [if_neg (by rw [zero_nat]; simpa using h0)]
    obtain ⟨a', b', t', i1, i2, i3, i4, i5, i6, i7, i8⟩ := gl2_ok (b4 := (0, 0)) (g := Nat.gcd a b) a a b 0 (by omega) (by omega) (by omega) (by omega) hb0 (by simp)
    refine i8 _ ?_
    refine gl3_ok (g := Nat.gcd a' b') i5 ?_ _ a' b' (Nat.le_refl _) i2 (by omega) (by omega) rfl
    have hle : Nat.gcd a b ≤ b := Nat.gcd_le_right _ hb0
    refine gl6_ok t' _ (by rw [i6]; omega) i7 ?_
    rw [i6]
    exact h
end Go.Proofs.YtieeiiibamkbmaaGreat.Am
namespace Go.Proofs.YtieeiiibamkbmaaGreat.Am
open Go
set_option linter.unusedVariables false
set_option linter.unusedSimpArgs false
set_option maxRecDepth 4000

theorem double_uu {x t : Int} (hx : 0 ≤ x) (ht : 0 ≤ t) (ht' : t < 2) (h' : x < 340282366920938463463374607431768211456) :
    (wU64 (wU64 ((uu x).1 * 2 ^ 1) + Int.fdiv (uu x).2 (2 ^ 63)), wU64 (wU64 ((uu x).2 * 2 ^ 1) + t)) = uu ((2 * x + t) % 340282366920938463463374607431768211456) := by
  have e1 : (2 : Int) ^ 1 = 2 := by decide
  have e2 : (2 : Int) ^ 63 = 9223372036854775808 := by decide
  rw [e1, e2, Int.fdiv_eq_ediv_of_nonneg _ (by omega), wU_mod, wU_mod, wU_mod, wU_mod]
  refine Prod.ext ?_ ?_
  · simp only [uu]; omega
  · simp only [uu]; omega
theorem double_uu0 {x : Int} (hx : 0 ≤ x) (h' : x < 340282366920938463463374607431768211456) :
    (wU64 (wU64 ((uu x).1 * 2 ^ 1) + Int.fdiv (uu x).2 (2 ^ 63)), wU64 ((uu x).2 * 2 ^ 1)) = uu ((2 * x) % 340282366920938463463374607431768211456) := by
  have e1 : (2 : Int) ^ 1 = 2 := by decide
  have e2 : (2 : Int) ^ 63 = 9223372036854775808 := by decide
  rw [e1, e2, Int.fdiv_eq_ediv_of_nonneg _ (by omega), wU_mod, wU_mod, wU_mod]
  refine Prod.ext ?_ ?_
  · simp only [uu]; omega
  · simp only [uu]; omega
theorem topbit (x : Int) (hx : 0 ≤ x) (h' : x < 340282366920938463463374607431768211456) : Int.fdiv (uu x).1 (2 ^ 63) = x / 170141183460469231731687303715884105728 := by
  have e2 : (2 : Int) ^ 63 = 9223372036854775808 := by decide
  rw [e2, Int.fdiv_eq_ediv_of_nonneg _ (by omega)]
  simp only [uu]
  omega
theorem double_uuB {x y : Int} (hx : 0 ≤ x) (h' : x < 340282366920938463463374607431768211456) (hy : 0 ≤ y) (hy' : y < 340282366920938463463374607431768211456) :
    (wU64 (wU64 ((uu x).1 * 2 ^ 1) + Int.fdiv (uu x).2 (2 ^ 63)), wU64 (wU64 ((uu x).2 * 2 ^ 1) + Int.fdiv (uu y).1 (2 ^ 63))) = uu ((2 * x + y / 170141183460469231731687303715884105728) % 340282366920938463463374607431768211456) := by
  have h := topbit y hy hy'
  generalize Int.fdiv (uu y).1 (2 ^ 63) = t at h ⊢
  subst h
  exact double_uu hx (by omega) (by omega) h'
theorem dl3_step {k0 : U → U → U → U → Prop} {m : Nat} {i : Int} {a b b4 b5 q r a' q' r' : U}
    (ha : (wU64 (wU64 (a.1 * 2 ^ 1) + Int.fdiv a.2 (2 ^ 63)), wU64 (a.2 * 2 ^ 1)) = a')
    (hq : (wU64 (wU64 (q.1 * 2 ^ 1) + Int.fdiv q.2 (2 ^ 63)), wU64 (q.2 * 2 ^ 1)) = q')
    (hr : (wU64 (wU64 (r.1 * 2 ^ 1) + Int.fdiv r.2 (2 ^ 63)), wU64 (wU64 (r.2 * 2 ^ 1) + Int.fdiv a.1 (2 ^ 63))) = r') (hi : i < 128)
    (h1 : Int.fdiv r.1 (2 ^ 63) > 0 → ref02_Div_j4 i true a' b b4 b5 q' r' (fun i_8 a_2 b_3 b_4 b_5 q_6 r_7 => (ref02_Div_l3N k0 m i_8 a_2 b_3 b_4 b_5 q_6 r_7)))
    (h2 : ¬ Int.fdiv r.1 (2 ^ 63) > 0 → ref02_Less r' b (fun r2 => ref02_Div_j4 i (!r2) a' b b4 b5 q' r' (fun i_8 a_2 b_3 b_4 b_5 q_6 r_7 => (ref02_Div_l3N k0 m i_8 a_2 b_3 b_4 b_5 q_6 r_7)))) :
    ref02_Div_l3N k0 (m + 1) i a b b4 b5 q r := by
  subst ha hq hr
  unfold ref02_Div_l3N
  rw [if_pos (by simpa using hi)]
  by_cases h : Int.fdiv r.1 (2 ^ 63) > 0
  · rw [if_pos (by simpa using h)]; exact h1 h
  · rw [if_neg (by simpa using h)]; exact h2 h
/-- Long division, n steps before its end. -/
theorem dl3_ok {b : Nat} {b4 b5 : U} (hb : 0 < b) (hb' : b < 340282366920938463463374607431768211456) {k0 : U → U → U → U → Prop} : ∀ (n : Nat) (a q r H : Nat), n ≤ 128 → a < 340282366920938463463374607431768211456 → r < b → q < 2 ^ (128 - n) →
    H = (q * b + r) * 2 ^ n + a / 2 ^ (128 - n) → k0 b4 b5 (uu ((H / b : Nat) : Int)) (uu ((H % b : Nat) : Int)) →
    ∃ m, ref02_Div_l3N k0 m (128 - n : Int) (uu (a : Int)) (uu (b : Int)) b4 b5 (uu (q : Int)) (uu (r : Int)) := by
  intro n
  induction n with
  | zero =>
    intro a q r H hn ha hr hq hH hk
    refine ⟨1, ?_⟩
    unfold ref02_Div_l3N
    rw [if_neg (by simp)]
    have ea : a / 2 ^ (128 - 0) = 0 := Nat.div_eq_of_lt (by simpa using ha)
    rw [ea, Nat.pow_zero, Nat.mul_one, Nat.add_zero] at hH
    have e1 : H / b = q := by rw [hH, Nat.mul_comm, Nat.mul_add_div hb, Nat.div_eq_of_lt hr, Nat.add_zero]
    have e2 : H % b = r := by rw [hH, Nat.mul_comm, Nat.mul_add_mod, Nat.mod_eq_of_lt hr]
    rw [e1, e2] at hk
    exact hk
  | succ n ih =>
    intro a q r H hn ha hr hq hH hk
    -- the next bit
    obtain ⟨t, ht⟩ : ∃ t, t = a / 170141183460469231731687303715884105728 := ⟨_, rfl⟩
    have ht2 : t < 2 := by omega
    obtain ⟨l, hl⟩ : ∃ l, l = a % 170141183460469231731687303715884105728 := ⟨_, rfl⟩
    have hal : a = t * 170141183460469231731687303715884105728 + l := by omega
    have hll : l < 170141183460469231731687303715884105728 := by omega
    have hpow : 170141183460469231731687303715884105728 = 2 ^ n * 2 ^ (127 - n) := by
      rw [← Nat.pow_add, show n + (127 - n) = 127 by omega]
    have hd1 : a / 2 ^ (128 - (n + 1)) = t * 2 ^ n + l / 2 ^ (127 - n) := by
      rw [show 128 - (n + 1) = 127 - n by omega, hal, hpow, show t * (2 ^ n * 2 ^ (127 - n)) = 2 ^ (127 - n) * (t * 2 ^ n) by simp only [Nat.mul_assoc, Nat.mul_left_comm, Nat.mul_comm]]
      rw [Nat.mul_add_div (Nat.pow_pos (by omega))]
    have hd2 : (2 * l) / 2 ^ (128 - n) = l / 2 ^ (127 - n) := by
      rw [show 128 - n = (127 - n) + 1 by omega, Nat.pow_succ, Nat.mul_comm 2 l, Nat.mul_div_mul_right _ _ (by omega)]
    have hH2 : H = (2 * (q * b + r) + t) * 2 ^ n + (2 * l) / 2 ^ (128 - n) := by
      rw [hH, hd1, hd2, Nat.pow_succ]
      grind
    have hq2 : q < 170141183460469231731687303715884105728 := by
      have : 2 ^ (128 - (n + 1)) ≤ 2 ^ 127 := Nat.pow_le_pow_right (by omega) (by omega)
      have e : (2 : Nat) ^ 127 = 170141183460469231731687303715884105728 := by decide
      omega
    have hq3 : 2 ^ (128 - n) = 2 * 2 ^ (128 - (n + 1)) := by
      rw [show 128 - n = (128 - (n + 1)) + 1 by omega, Nat.pow_succ, Nat.mul_comm]
    have ea : uu ((2 * (a : Int)) % 340282366920938463463374607431768211456) = uu ((2 * l : Nat) : Int) := by
      congr 1; omega
    have et : (t : Int) = (a : Int) / 170141183460469231731687303715884105728 := by omega
    have eq2 : uu ((2 * (q : Int)) % 340282366920938463463374607431768211456) = uu ((2 * q : Nat) : Int) := by
      congr 1; omega
    have ei : wI64 ((128 - ((n + 1 : Nat) : Int)) + 1) = 128 - (n : Int) := by
      rw [wI_id (by omega) (by omega)]; omega
    have eq3 : ((uu ((2 * q : Nat) : Int)).1, wU64 ((uu ((2 * q : Nat) : Int)).2 + 1)) = uu ((2 * q + 1 : Nat) : Int) := by
      rw [wU_mod]
      refine Prod.ext ?_ ?_
      · simp only [uu]; omega
      · simp only [uu]; omega
    by_cases hge : b ≤ 2 * r + t
    · -- a one
      have hH3 : H = ((2 * q + 1) * b + (2 * r + t - b)) * 2 ^ n + (2 * l) / 2 ^ (128 - n) := by
        have e1 : 2 * r + t - b + b = 2 * r + t := by omega
        have e : (2 * q + 1) * b + (2 * r + t - b) = 2 * (q * b + r) + t := by
          generalize 2 * r + t - b = z at *
          grind
        rw [hH2, e]
      obtain ⟨m, hm⟩ := ih (2 * l) (2 * q + 1) (2 * r + t - b) H (by omega) (by omega) (by omega) (by omega) hH3 hk
      refine ⟨m + 1, ?_⟩
      have yes : ref02_Div_j4 (128 - ((n + 1 : Nat) : Int)) true (uu ((2 * l : Nat) : Int)) (uu (b : Int)) b4 b5 (uu ((2 * q : Nat) : Int)) (uu ((2 * (r : Int) + t) % 340282366920938463463374607431768211456))
          (fun i_8 a_2 b_3 b_4 b_5 q_6 r_7 => (ref02_Div_l3N k0 m i_8 a_2 b_3 b_4 b_5 q_6 r_7)) := by
        unfold ref02_Div_j4
        rw [if_pos rfl]
        refine rminus_wrap (by omega) (by omega) (by omega) (by omega) ?_
        rw [ei, eq3, show ((2 * (r : Int) + t) % 340282366920938463463374607431768211456 - b) % 340282366920938463463374607431768211456 = ((2 * r + t - b : Nat) : Int) by omega]
        exact hm
      refine dl3_step (a' := uu ((2 * l : Nat) : Int)) (q' := uu ((2 * q : Nat) : Int)) (r' := uu ((2 * (r : Int) + t) % 340282366920938463463374607431768211456)) ?_ ?_ ?_ (by omega) (fun _ => yes) (fun hbig => ?_)
      · rw [← ea]; exact double_uu0 (by omega) (by omega)
      · rw [← eq2]; exact double_uu0 (by omega) (by omega)
      · rw [et]; exact double_uuB (by omega) (by omega) (by omega) (by omega)
      · rw [topbit _ (by omega) (by omega)] at hbig
        refine rless_ok ?_
        rw [show (!decide ((2 * (r : Int) + (t : Int)) % 340282366920938463463374607431768211456 < (b : Int))) = true by simp only [Bool.not_eq_true', decide_eq_false_iff_not]; omega]
        exact yes
    · have hH3 : H = ((2 * q) * b + (2 * r + t)) * 2 ^ n + (2 * l) / 2 ^ (128 - n) := by
        have e : (2 * q) * b + (2 * r + t) = 2 * (q * b + r) + t := by grind
        rw [hH2, e]
      obtain ⟨m, hm⟩ := ih (2 * l) (2 * q) (2 * r + t) H (by omega) (by omega) (by omega) (by omega) hH3 hk
      refine ⟨m + 1, ?_⟩
      refine dl3_step (a' := uu ((2 * l : Nat) : Int)) (q' := uu ((2 * q : Nat) : Int)) (r' := uu ((2 * (r : Int) + t) % 340282366920938463463374607431768211456)) ?_ ?_ ?_ (by omega) (fun hbig => ?_) (fun hbig => ?_)
      · rw [← ea]; exact double_uu0 (by omega) (by omega)
      · rw [← eq2]; exact double_uu0 (by omega) (by omega)
      · rw [et]; exact double_uuB (by omega) (by omega) (by omega) (by omega)
      · rw [topbit _ (by omega) (by omega)] at hbig
        omega
      · refine rless_ok ?_
        rw [show (!decide ((2 * (r : Int) + (t : Int)) % 340282366920938463463374607431768211456 < (b : Int))) = false by simp only [Bool.not_eq_false', decide_eq_true_eq]; omega]
        unfold ref02_Div_j4
        rw [if_neg (by simp)]
        rw [ei, show (2 * (r : Int) + t) % 340282366920938463463374607431768211456 = ((2 * r + t : Nat) : Int) by omega]
        exact hm
theorem rdiv_ok {a b : Nat} (ha : a < 340282366920938463463374607431768211456) (hb : 0 < b) (hb' : b < 340282366920938463463374607431768211456) {K : (U × U) → Prop} (h : K (uu ((a / b : Nat) : Int), uu ((a % b : Nat) : Int))) : ref02_Div (uu (a : Int)) (uu (b : Int)) K := by
  have slow : ref02_Div_j2 false (uu (a : Int)) (uu (b : Int)) (0, 0) (0, 0) (fun rb_4 rb_5 => (K (rb_4, rb_5))) := by
    unfold ref02_Div_j2
    rw [if_neg (by simp)]
    exact dl3_ok hb hb' 128 a 0 0 a (by omega) ha hb (by simp) (by simp) h
  unfold ref02_Div
  by_cases h1 : (uu (a : Int)).1 = 0
  · rw [if_pos (by simpa using h1)]
    by_cases h2 : (uu (b : Int)).1 = 0
    · rw [show ((uu (b : Int)).1 == 0) = true by simpa using h2]
      unfold ref02_Div_j2
      rw [if_pos rfl]
      rw [uu1] at h1 h2
      have e1 : (uu (a : Int)).2 = a := by rw [uu2]; omega
      have e2 : (uu (b : Int)).2 = b := by rw [uu2]; omega
      rw [e1, e2, if_neg (by omega), if_neg (by omega), tdiv_nat, tmod_nn (by omega)]
      have l1 : a / b ≤ a := Nat.div_le_self _ _
      have l2 : a % b < b := Nat.mod_lt _ hb
      have f1 : uu ((a / b : Nat) : Int) = (0, wU64 ((a / b : Nat) : Int)) := by
        generalize a / b = x at *
        rw [wU_id (by omega) (by omega)]
        refine Prod.ext ?_ ?_ <;> simp only [uu] <;> omega
      have f2 : uu ((a % b : Nat) : Int) = (0, (a : Int) % (b : Int)) := by
        rw [← Int.natCast_emod]
        generalize a % b = x at *
        refine Prod.ext ?_ ?_ <;> simp only [uu] <;> omega
      rw [f1, f2] at h
      exact h
    · rw [show ((uu (b : Int)).1 == 0) = false by simpa using h2]
      exact slow
  · rw [if_neg (by simpa using h1)]
    exact slow

/-! The reduced fraction. -/
theorem made_ok {n d : Nat} {neg : Bool} (hn : n < 340282366920938463463374607431768211456) (hd : d < 340282366920938463463374607431768211456) (hd0 : 0 < d) {q : Rat} (hq : q = ((if neg then -(n : Int) else (n : Int) : Int) : Rat) / ((d : Int) : Rat)) {K : Frac × Int → Prop} (h : K (res q)) :
    ref02_Made (uu (n : Int)) neg (uu (d : Int)) K := by
  unfold ref02_Made
  rw [if_neg (by rw [zero_nat]; simp only [decide_eq_true_eq]; omega)]
  have hgp : 0 < Nat.gcd n d := Nat.gcd_pos_of_pos_right _ hd0
  have hgl : Nat.gcd n d ≤ d := Nat.gcd_le_right _ hd0
  refine rgcd_ok hn hd hd0 (rdiv_ok hn hgp (by omega) (rdiv_ok hd hgp (by omega) ?_))
  obtain ⟨e1, e2⟩ := parts_abs hd0 hq
  have l1 : n / Nat.gcd n d ≤ n := Nat.div_le_self _ _
  have l2 : d / Nat.gcd n d ≤ d := Nat.div_le_self _ _
  generalize n / Nat.gcd n d = N at *
  generalize d / Nat.gcd n d = D at *
  have habs : q.num.natAbs = N := by rw [e1]; exact abs_sgn neg _
  have hbig : ¬ InM q → ∀ x y : U, ref02_Made_j2 neg true (0, 0) x y (fun rb_6 rt_7 => K (rb_6, rt_7)) := fun hi x y => by
    rw [res_out hi] at h
    unfold ref02_Made_j2
    rw [if_pos rfl]
    exact h
  simp only []
  rw [uu1, uu2, uu1, uu2]
  by_cases c1 : (N : Int) / 18446744073709551616 > 0
  · rw [if_pos (by simpa using c1)]
    exact hbig (fun hi => by have := hi.1; omega) _ _
  · rw [if_neg (by simpa using c1)]
    by_cases c2 : (N : Int) % 18446744073709551616 > 1152921504606846976
    · rw [if_pos (by simpa using c2)]
      exact hbig (fun hi => by have := hi.1; omega) _ _
    · rw [if_neg (by simpa using c2)]
      by_cases c3 : (D : Int) / 18446744073709551616 > 0
      · rw [if_pos (by simpa using c3)]
        exact hbig (fun hi => by have := hi.2; omega) _ _
      · rw [if_neg (by simpa using c3)]
        by_cases c4 : (D : Int) % 18446744073709551616 > 1152921504606846976
        · rw [show decide ((D : Int) % 18446744073709551616 > 1152921504606846976) = true by simpa using c4]
          exact hbig (fun hi => by have := hi.2; omega) _ _
        · rw [show decide ((D : Int) % 18446744073709551616 > 1152921504606846976) = false by simpa using c4]
          have hi : InM q := ⟨by omega, by omega⟩
          rw [res_in hi] at h
          unfold ref02_Made_j2
          rw [if_neg (by simp), uu2, uu2]
          rw [show (N : Int) % 18446744073709551616 = N by omega, show (D : Int) % 18446744073709551616 = D by omega]
          rw [wI_id (x := (N : Int)) (by omega) (by omega), wI_id (x := (D : Int)) (by omega) (by omega), wI_id (x := 0 - (N : Int)) (by omega) (by omega)]
          cases neg with
          | true =>
            rw [if_pos rfl]
            have : fr q = (0 - (N : Int), (D : Int)) := by unfold fr; rw [e1, e2]; simp
            rw [← this]; exact h
          | false =>
            rw [if_neg (by simp)]
            have : fr q = ((N : Int), (D : Int)) := by unfold fr; rw [e1, e2]; simp
            rw [← this]; exact h
theorem made_zero {n : Int} {neg : Bool} {K : Frac × Int → Prop} (h : K ((0, 0), 16)) : ref02_Made (uu n) neg (uu 0) K := by
  unfold ref02_Made
  rw [if_pos (by decide)]
  exact h
end Go.Proofs.YtieeiiibamkbmaaGreat.Am
namespace Go.Proofs.YtieeiiibamkbmaaGreat.Am
open Go
set_option linter.unusedVariables false
set_option linter.unusedSimpArgs false

theorem add_q (p q : Rat) : p + q = ((p.num * q.den + q.num * p.den : Int) : Rat) / ((p.den * q.den : Int) : Rat) := by
  have h1 := q_eq p
  have h2 := q_eq q
  have f1 : ((p.num * q.den + q.num * p.den : Int) : Rat) = (p.num : Rat) * ((q.den : Int) : Rat) + (q.num : Rat) * ((p.den : Int) : Rat) := by push_cast; rfl
  have f2 : ((p.den * q.den : Int) : Rat) = ((p.den : Int) : Rat) * ((q.den : Int) : Rat) := by push_cast; rfl
  have f3 : ((p.den : Int) : Rat) ≠ 0 := cast_ne (by have := p.den_pos; omega)
  have f4 : ((q.den : Int) : Rat) ≠ 0 := cast_ne (by have := q.den_pos; omega)
  rw [f1, f2]
  generalize (p.num : Rat) = x at *
  generalize (q.num : Rat) = y at *
  generalize ((p.den : Int) : Rat) = z at *
  generalize ((q.den : Int) : Rat) = w at *
  subst h1 h2
  grind
theorem mul_q (p q : Rat) : p * q = ((p.num * q.num : Int) : Rat) / ((p.den * q.den : Int) : Rat) := by
  have h1 := q_eq p
  have h2 := q_eq q
  have f1 : ((p.num * q.num : Int) : Rat) = (p.num : Rat) * (q.num : Rat) := by push_cast; rfl
  have f2 : ((p.den * q.den : Int) : Rat) = ((p.den : Int) : Rat) * ((q.den : Int) : Rat) := by push_cast; rfl
  have f3 : ((p.den : Int) : Rat) ≠ 0 := cast_ne (by have := p.den_pos; omega)
  have f4 : ((q.den : Int) : Rat) ≠ 0 := cast_ne (by have := q.den_pos; omega)
  rw [f1, f2]
  generalize (p.num : Rat) = x at *
  generalize (q.num : Rat) = y at *
  generalize ((p.den : Int) : Rat) = z at *
  generalize ((q.den : Int) : Rat) = w at *
  subst h1 h2
  grind
theorem div_q (p q : Rat) (h : q ≠ 0) : p / q = ((p.num * q.den : Int) : Rat) / ((p.den * q.num : Int) : Rat) := by
  have h1 := q_eq p
  have h2 := q_eq q
  have f1 : ((p.num * q.den : Int) : Rat) = (p.num : Rat) * ((q.den : Int) : Rat) := by push_cast; rfl
  have f2 : ((p.den * q.num : Int) : Rat) = ((p.den : Int) : Rat) * (q.num : Rat) := by push_cast; rfl
  have f3 : ((p.den : Int) : Rat) ≠ 0 := cast_ne (by have := p.den_pos; omega)
  have f4 : ((q.den : Int) : Rat) ≠ 0 := cast_ne (by have := q.den_pos; omega)
  have f5 : (q.num : Rat) ≠ 0 := cast_ne (num_ne h)
  rw [f1, f2]
  clear h
  generalize (p.num : Rat) = x at *
  generalize (q.num : Rat) = y at *
  generalize ((p.den : Int) : Rat) = z at *
  generalize ((q.den : Int) : Rat) = w at *
  subst h1 h2
  grind

theorem den_isi {q : Rat} (h : InM q) : IsI (q.den : Int) := by have := h.2; exact ⟨by omega, by omega⟩
/-- A product of two sizes. -/
theorem prod_nat {x y : Nat} (hx : x ≤ 1152921504606846976) (hy : y ≤ 1152921504606846976) {K : U → Prop} (h : x * y ≤ 1329227995784915872903807060280344576 → K (uu ((x * y : Nat) : Int))) : ref02_Mul (x : Int) (y : Int) K := by
  refine rmul_ok (u_nat (by omega)) (u_nat (by omega)) ?_
  have : x * y ≤ 1152921504606846976 * 1152921504606846976 := Nat.mul_le_mul hx hy
  have := h (by omega)
  push_cast at this
  exact this
theorem radd_ok {p q : Rat} (hp : InM p) (hq : InM q) {K : Frac × Int → Prop} (h : K (res (p + q))) : ref02_Add (fr p) (fr q) K := by
  unfold ref02_Add
  have hp1 := hp.1
  have hq1 := hq.1
  have hpp := p.den_pos
  have hqp := q.den_pos
  refine rsize_ok (inm_isi hp) (rsize_ok (den_isi hq) ?_)
  show ref02_Mul ((p.num.natAbs : Nat) : Int) (((q.den : Int).natAbs : Nat) : Int) _
  rw [Int.natAbs_natCast]
  refine prod_nat hp1 hq.2 (fun hx => rsize_ok (inm_isi hq) (rsize_ok (den_isi hp) ?_))
  show ref02_Mul ((q.num.natAbs : Nat) : Int) (((p.den : Int).natAbs : Nat) : Int) _
  rw [Int.natAbs_natCast]
  refine prod_nat hq1 hp.2 (fun hy => rsize_ok (den_isi hp) (rsize_ok (den_isi hq) ?_))
  show ref02_Mul (((p.den : Int).natAbs : Nat) : Int) (((q.den : Int).natAbs : Nat) : Int) _
  rw [Int.natAbs_natCast, Int.natAbs_natCast]
  refine prod_nat hp.2 hq.2 (fun hz => ?_)
  have ez : ((p.den * q.den : Int)) = ((p.den * q.den : Nat) : Int) := by push_cast; rfl
  have ex1 : p.num < 0 → p.num * (q.den : Int) = -((p.num.natAbs * q.den : Nat) : Int) := fun h => by
    rw [Int.natCast_mul, show ((p.num.natAbs : Nat) : Int) = -p.num by omega]; grind
  have ex2 : ¬ p.num < 0 → p.num * (q.den : Int) = ((p.num.natAbs * q.den : Nat) : Int) := fun h => by
    rw [Int.natCast_mul, show ((p.num.natAbs : Nat) : Int) = p.num by omega]
  have ey1 : q.num < 0 → q.num * (p.den : Int) = -((q.num.natAbs * p.den : Nat) : Int) := fun h => by
    rw [Int.natCast_mul, show ((q.num.natAbs : Nat) : Int) = -q.num by omega]; grind
  have ey2 : ¬ q.num < 0 → q.num * (p.den : Int) = ((q.num.natAbs * p.den : Nat) : Int) := fun h => by
    rw [Int.natCast_mul, show ((q.num.natAbs : Nat) : Int) = q.num by omega]
  have hz0 : 0 < p.den * q.den := Nat.mul_pos hpp hqp
  have key : ∀ (N : Nat) (neg : Bool), N < 340282366920938463463374607431768211456 → p.num * q.den + q.num * p.den = (if neg then -(N : Int) else (N : Int)) → ref02_Made (uu (N : Int)) neg (uu ((p.den * q.den : Nat) : Int)) (fun r => K (r.1, r.2)) := by
    intro N neg hN he
    refine made_ok hN (by omega) hz0 ?_ h
    rw [add_q, he, ez]
  generalize p.num.natAbs * q.den = x at *
  generalize q.num.natAbs * p.den = y at *
  generalize p.den * q.den = z at *
  by_cases h1 : p.num < 0 <;> by_cases h2 : q.num < 0
  · rw [if_pos (by simp [h1, h2])]
    refine rplus_ok (by omega) (by omega) (by omega) ?_
    rw [show (x : Int) + (y : Int) = ((x + y : Nat) : Int) by push_cast; rfl, show decide ((fr p).1 < 0) = true by simpa using h1]
    exact key (x + y) true (by omega) (by rw [ex1 h1, ey1 h2]; simp; omega)
  · rw [if_neg (by simp [h1, h2])]
    refine rless_ok ?_
    by_cases h3 : (x : Int) < y
    · rw [if_pos (by simpa using h3)]
      refine rminus_ok (by omega) (by omega) (by omega) ?_
      rw [show (y : Int) - (x : Int) = ((y - x : Nat) : Int) by omega, show decide ((fr q).1 < 0) = false by simpa using h2]
      exact key (y - x) false (by omega) (by rw [ex1 h1, ey2 h2]; simp; omega)
    · rw [if_neg (by simpa using h3)]
      refine rminus_ok (by omega) (by omega) (by omega) ?_
      rw [show (x : Int) - (y : Int) = ((x - y : Nat) : Int) by omega, show decide ((fr p).1 < 0) = true by simpa using h1]
      exact key (x - y) true (by omega) (by rw [ex1 h1, ey2 h2]; simp; omega)
  · rw [if_neg (by simp [h1, h2])]
    refine rless_ok ?_
    by_cases h3 : (x : Int) < y
    · rw [if_pos (by simpa using h3)]
      refine rminus_ok (by omega) (by omega) (by omega) ?_
      rw [show (y : Int) - (x : Int) = ((y - x : Nat) : Int) by omega, show decide ((fr q).1 < 0) = true by simpa using h2]
      exact key (y - x) true (by omega) (by rw [ex2 h1, ey1 h2]; simp; omega)
    · rw [if_neg (by simpa using h3)]
      refine rminus_ok (by omega) (by omega) (by omega) ?_
      rw [show (x : Int) - (y : Int) = ((x - y : Nat) : Int) by omega, show decide ((fr p).1 < 0) = false by simpa using h1]
      exact key (x - y) false (by omega) (by rw [ex2 h1, ey1 h2]; simp; omega)
  · rw [if_pos (by simp [h1, h2])]
    refine rplus_ok (by omega) (by omega) (by omega) ?_
    rw [show (x : Int) + (y : Int) = ((x + y : Nat) : Int) by push_cast; rfl, show decide ((fr p).1 < 0) = false by simpa using h1]
    exact key (x + y) false (by omega) (by rw [ex2 h1, ey2 h2]; simp)
theorem rneg_ok {q : Rat} (hq : InM q) {K : Frac → Prop} (h : K (fr (-q))) : ref02_Neg (fr q) K := by
  unfold ref02_Neg
  have hq1 := hq.1
  have : (wI64 (0 - (fr q).1), (fr q).2) = fr (-q) := by
    rw [fr_neg]
    show (wI64 (0 - q.num), (q.den : Int)) = _
    rw [wI_id (x := 0 - q.num) (by omega) (by omega), Int.zero_sub]
  rw [this]; exact h
theorem rsub_ok {p q : Rat} (hp : InM p) (hq : InM q) {K : Frac × Int → Prop} (h : K (res (p - q))) : ref02_Sub (fr p) (fr q) K := by
  unfold ref02_Sub
  refine rneg_ok hq (radd_ok hp (inm_neg hq) ?_)
  rw [Rat.sub_eq_add_neg] at h
  exact h
/-- The sign of a product by the signs and sizes of its factors. -/
theorem sgn_mul (a b : Int) : a * b = if (!((decide (a < 0)) == (decide (b < 0)))) then -((a.natAbs * b.natAbs : Nat) : Int) else ((a.natAbs * b.natAbs : Nat) : Int) := by
  rw [Int.natCast_mul]
  by_cases h1 : a < 0 <;> by_cases h2 : b < 0
  · rw [if_neg (by simp [h1, h2]), show ((a.natAbs : Nat) : Int) = -a by omega, show ((b.natAbs : Nat) : Int) = -b by omega]; grind
  · rw [if_pos (by simp [h1, h2]), show ((a.natAbs : Nat) : Int) = -a by omega, show ((b.natAbs : Nat) : Int) = b by omega]; grind
  · rw [if_pos (by simp [h1, h2]), show ((a.natAbs : Nat) : Int) = a by omega, show ((b.natAbs : Nat) : Int) = -b by omega]; grind
  · rw [if_neg (by simp [h1, h2]), show ((a.natAbs : Nat) : Int) = a by omega, show ((b.natAbs : Nat) : Int) = b by omega]
theorem times_ok {p q : Rat} (hp : InM p) (hq : InM q) {K : Frac × Int → Prop} (h : K (res (p * q))) : ref02_Times (fr p) (fr q) K := by
  unfold ref02_Times
  have hpp := p.den_pos
  have hqp := q.den_pos
  refine rsize_ok (inm_isi hp) (rsize_ok (inm_isi hq) (prod_nat hp.1 hq.1 (fun hx => rsize_ok (den_isi hp) (rsize_ok (den_isi hq) ?_))))
  show ref02_Mul (((p.den : Int).natAbs : Nat) : Int) (((q.den : Int).natAbs : Nat) : Int) _
  rw [Int.natAbs_natCast, Int.natAbs_natCast]
  refine prod_nat hp.2 hq.2 (fun hz => ?_)
  refine made_ok (by omega) (by omega) (Nat.mul_pos hpp hqp) ?_ h
  rw [mul_q, sgn_mul p.num q.num, show ((p.den * q.den : Int)) = ((p.den * q.den : Nat) : Int) by push_cast; rfl]
theorem over0_ok {p : Rat} (hp : InM p) {K : Frac × Int → Prop} (h : K ((0, 0), 16)) : ref02_Over (fr p) (fr 0) K := by
  unfold ref02_Over
  refine rsize_ok (inm_isi hp) (rsize_ok ⟨by decide, by decide⟩ ?_)
  refine prod_nat hp.1 (y := 1) (by omega) (fun hx => rsize_ok (den_isi hp) (rsize_ok ⟨by decide, by decide⟩ ?_))
  show ref02_Mul (((p.den : Int).natAbs : Nat) : Int) ((0 : Nat) : Int) _
  rw [Int.natAbs_natCast]
  refine prod_nat hp.2 (by omega) (fun hz => ?_)
  rw [Nat.mul_zero]
  exact made_zero h
theorem rover_ok {p q : Rat} (hp : InM p) (hq : InM q) (h0 : q ≠ 0) {K : Frac × Int → Prop} (h : K (res (p / q))) : ref02_Over (fr p) (fr q) K := by
  unfold ref02_Over
  have hpp := p.den_pos
  have hqp := q.den_pos
  have hn := num_ne h0
  refine rsize_ok (inm_isi hp) (rsize_ok (den_isi hq) ?_)
  show ref02_Mul ((p.num.natAbs : Nat) : Int) (((q.den : Int).natAbs : Nat) : Int) _
  rw [Int.natAbs_natCast]
  refine prod_nat hp.1 hq.2 (fun hx => rsize_ok (den_isi hp) (rsize_ok (inm_isi hq) ?_))
  show ref02_Mul (((p.den : Int).natAbs : Nat) : Int) ((q.num.natAbs : Nat) : Int) _
  rw [Int.natAbs_natCast]
  refine prod_nat hp.2 hq.1 (fun hz => ?_)
  have hz0 : 0 < p.den * q.num.natAbs := Nat.mul_pos hpp (by omega)
  refine made_ok (by omega) (by omega) hz0 ?_ h
  rw [div_q p q h0]
  refine rdiv (Int.mul_ne_zero (by omega) hn) (by omega) ?_
  rw [Int.natCast_mul, Int.natCast_mul]
  by_cases h1 : p.num < 0 <;> by_cases h2 : q.num < 0
  · rw [if_neg (by simp [h1, h2]), show ((p.num.natAbs : Nat) : Int) = -p.num by omega, show ((q.num.natAbs : Nat) : Int) = -q.num by omega]; grind
  · rw [if_pos (by simp [h1, h2]), show ((p.num.natAbs : Nat) : Int) = -p.num by omega, show ((q.num.natAbs : Nat) : Int) = q.num by omega]; grind
  · rw [if_pos (by simp [h1, h2]), show ((p.num.natAbs : Nat) : Int) = p.num by omega, show ((q.num.natAbs : Nat) : Int) = -q.num by omega]; grind
  · rw [if_neg (by simp [h1, h2]), show ((p.num.natAbs : Nat) : Int) = p.num by omega, show ((q.num.natAbs : Nat) : Int) = q.num by omega]
theorem small_uu {n : Nat} (h : n < 18446744073709551616) : ((0 : Int), (n : Int)) = uu (n : Int) := by
  refine Prod.ext ?_ ?_ <;> simp only [uu] <;> omega
theorem rmake_ok {n d : Int} (hn : IsI n) (hd : IsI d) (h0 : d ≠ 0) {K : Frac × Int → Prop} (h : K (res ((n : Rat) / (d : Rat)))) : ref02_Make n d K := by
  unfold ref02_Make
  obtain ⟨n1, n2⟩ := hn
  obtain ⟨d1, d2⟩ := hd
  refine rsize_ok ⟨n1, n2⟩ (rsize_ok ⟨d1, d2⟩ ?_)
  rw [small_uu (n := n.natAbs) (by omega), small_uu (n := d.natAbs) (by omega)]
  refine made_ok (by omega) (by omega) (by omega) ?_ h
  refine rdiv h0 (by omega) ?_
  by_cases h1 : n < 0 <;> by_cases h2 : d < 0
  · rw [if_neg (by simp [h1, h2]), show ((n.natAbs : Nat) : Int) = -n by omega, show ((d.natAbs : Nat) : Int) = -d by omega]; grind
  · rw [if_pos (by simp [h1, h2]), show ((n.natAbs : Nat) : Int) = -n by omega, show ((d.natAbs : Nat) : Int) = d by omega]; grind
  · rw [if_pos (by simp [h1, h2]), show ((n.natAbs : Nat) : Int) = n by omega, show ((d.natAbs : Nat) : Int) = -d by omega]; grind
  · rw [if_neg (by simp [h1, h2]), show ((n.natAbs : Nat) : Int) = n by omega, show ((d.natAbs : Nat) : Int) = d by omega]
theorem rvalid_ok {a : Frac} (h1 : IsI a.1) (h2 : IsI a.2) {K : Bool → Prop} (h : K (decide (VF a.1 a.2))) : ref02_Valid a K := by
  unfold ref02_Valid
  have no : ¬ VF a.1 a.2 → K false := fun hv => by rw [show decide (VF a.1 a.2) = false by simp [hv]] at h; exact h
  have non : ¬ VF a.1 a.2 → ref02_Valid_j2 true a (fun rt_2 => K rt_2) := fun hv => by unfold ref02_Valid_j2; rw [if_pos rfl]; exact no hv
  by_cases c1 : a.2 < 1
  · rw [if_pos (by simpa using c1)]
    exact non (fun hv => by have := hv.1; omega)
  · rw [if_neg (by simpa using c1)]
    by_cases c2 : a.2 > 1152921504606846976
    · rw [if_pos (by simpa using c2)]
      exact non (fun hv => by have := hv.2.1; omega)
    · rw [if_neg (by simpa using c2)]
      by_cases c3 : a.1 < -1152921504606846976
      · rw [if_pos (by simpa using c3)]
        exact non (fun hv => by have := hv.2.2.1; omega)
      · rw [if_neg (by simpa using c3)]
        by_cases c4 : a.1 > 1152921504606846976
        · rw [show decide (a.1 > 1152921504606846976) = true by simpa using c4]
          exact non (fun hv => by have := hv.2.2.2.1; omega)
        · rw [show decide (a.1 > 1152921504606846976) = false by simpa using c4]
          unfold ref02_Valid_j2
          rw [if_neg (by simp)]
          refine rsize_ok h1 (rsize_ok h2 ?_)
          rw [small_uu (n := a.1.natAbs) (by omega), small_uu (n := a.2.natAbs) (by omega)]
          refine rgcd_ok (by omega) (by omega) (by omega) ?_
          have hl : Nat.gcd a.1.natAbs a.2.natAbs ≤ a.2.natAbs := Nat.gcd_le_right _ (by omega)
          have e : ((uu ((Nat.gcd a.1.natAbs a.2.natAbs : Nat) : Int)).1 == 0 && (uu ((Nat.gcd a.1.natAbs a.2.natAbs : Nat) : Int)).2 == 1) = decide (VF a.1 a.2) := by
            rw [← small_uu (by omega), Bool.eq_iff_iff]
            simp only [Bool.and_eq_true, beq_iff_eq, decide_eq_true_eq]
            unfold VF
            constructor
            · rintro ⟨-, h⟩
              exact ⟨by omega, by omega, by omega, by omega, by omega⟩
            · intro h
              exact ⟨trivial, by omega⟩
          rw [e]; exact h
theorem rcmp_ok {p q : Rat} (hp : InM p) (hq : InM q) {K : Int → Prop} (h : K (cmpQ p q)) : ref02_Cmp (fr p) (fr q) K := by
  unfold ref02_Cmp
  have hpp := p.den_pos
  have hqp := q.den_pos
  refine rsize_ok (inm_isi hp) (rsize_ok (den_isi hq) ?_)
  show ref02_Mul ((p.num.natAbs : Nat) : Int) (((q.den : Int).natAbs : Nat) : Int) _
  rw [Int.natAbs_natCast]
  refine prod_nat hp.1 hq.2 (fun hx => rsize_ok (inm_isi hq) (rsize_ok (den_isi hp) ?_))
  show ref02_Mul ((q.num.natAbs : Nat) : Int) (((p.den : Int).natAbs : Nat) : Int) _
  rw [Int.natAbs_natCast]
  refine prod_nat hq.1 hp.2 (fun hy => ?_)
  have lt1 : p < q ↔ p.num * q.den < q.num * p.den := Rat.lt_iff p q
  have lt2 : q < p ↔ q.num * p.den < p.num * q.den := Rat.lt_iff q p
  have ex1 : p.num < 0 → p.num * (q.den : Int) = -((p.num.natAbs * q.den : Nat) : Int) := fun h => by
    rw [Int.natCast_mul, show ((p.num.natAbs : Nat) : Int) = -p.num by omega]; grind
  have ex2 : ¬ p.num < 0 → p.num * (q.den : Int) = ((p.num.natAbs * q.den : Nat) : Int) := fun h => by
    rw [Int.natCast_mul, show ((p.num.natAbs : Nat) : Int) = p.num by omega]
  have ey1 : q.num < 0 → q.num * (p.den : Int) = -((q.num.natAbs * p.den : Nat) : Int) := fun h => by
    rw [Int.natCast_mul, show ((q.num.natAbs : Nat) : Int) = -q.num by omega]; grind
  have ey2 : ¬ q.num < 0 → q.num * (p.den : Int) = ((q.num.natAbs * p.den : Nat) : Int) := fun h => by
    rw [Int.natCast_mul, show ((q.num.natAbs : Nat) : Int) = q.num by omega]
  have c1 : p.num < 0 → 0 < p.num.natAbs * q.den := fun h => Nat.mul_pos (by omega) hqp
  have c2 : q.num < 0 → 0 < q.num.natAbs * p.den := fun h => Nat.mul_pos (by omega) hpp
  have hc : cmpQ p q = if p.num * q.den < q.num * p.den then -1 else if q.num * p.den < p.num * q.den then 1 else 0 := by
    unfold cmpQ
    simp only [lt1, lt2]
  rw [hc] at h
  clear hc lt1 lt2
  generalize p.num.natAbs * q.den = x at *
  generalize q.num.natAbs * p.den = y at *
  have j3 : ref02_Cmp_j3 false (fr p) (uu (x : Int)) (uu (y : Int)) (fun rt_4 => K rt_4) ↔ K (if x = y then 0 else if (decide (x < y) == decide (p.num ≥ 0)) = true then -1 else 1) := by
    unfold ref02_Cmp_j3
    rw [if_neg (by simp)]
    have e : ((uu (x : Int)).1 == (uu (y : Int)).1 && (uu (x : Int)).2 == (uu (y : Int)).2) = decide (x = y) := by
      rw [Bool.eq_iff_iff]
      simp only [Bool.and_eq_true, beq_iff_eq, decide_eq_true_eq, uu]
      omega
    rw [e]
    by_cases h1 : x = y
    · rw [if_pos (by simpa using h1), if_pos h1]
    · rw [if_neg (by simpa using h1), if_neg h1]
      have e2 : ∀ k : Bool → Prop, ref02_Less (uu (x : Int)) (uu (y : Int)) k ↔ k (decide (x < y)) := by
        intro k
        have e3 : decide ((x : Int) < y) = decide (x < y) := by rw [Bool.eq_iff_iff]; simp only [decide_eq_true_eq]; omega
        constructor
        · intro hk
          cases hb : decide (x < y)
          · have := rless_ok (x := (x : Int)) (y := (y : Int)) (K := fun b => b = false) (by rw [e3]; exact hb)
            revert hk this
            unfold ref02_Less
            split
            · intro _ h; cases h
            · split
              · intro h1 h2; rw [h2] at h1; exact h1
              · intro h1 _; exact h1
          · have := rless_ok (x := (x : Int)) (y := (y : Int)) (K := fun b => b = true) (by rw [e3]; exact hb)
            revert hk this
            unfold ref02_Less
            split
            · intro h _; exact h
            · split
              · intro h1 h2; rw [h2] at h1; exact h1
              · intro _ h; cases h
        · intro hk
          exact rless_ok (by rw [e3]; exact hk)
      rw [e2]
      split <;> rfl
  by_cases h1 : p.num < 0
  · rw [if_pos (by simpa using h1)]
    by_cases h2 : q.num < 0
    · rw [show decide ((fr q).1 ≥ 0) = false from decide_eq_false (by show ¬ (q.num ≥ 0); omega)]
      unfold ref02_Cmp_j2
      rw [if_neg (by simp), if_neg (by simp only [decide_eq_true_eq]; omega)]
      rw [j3]
      rw [ex1 h1, ey1 h2] at h
      rw [show decide (p.num ≥ 0) = false from decide_eq_false (by omega)]
      by_cases h3 : x = y
      · rw [if_pos h3]; rw [if_neg (by omega), if_neg (by omega)] at h; exact h
      · rw [if_neg h3]
        by_cases h4 : x < y
        · rw [if_neg (by simpa using h4)]; rw [if_neg (by omega), if_pos (by omega)] at h; exact h
        · rw [if_pos (by simpa using h4)]; rw [if_pos (by omega)] at h; exact h
    · rw [show decide ((fr q).1 ≥ 0) = true from decide_eq_true (by show q.num ≥ 0; omega)]
      unfold ref02_Cmp_j2
      rw [if_pos rfl]
      have := c1 h1
      rw [ex1 h1, ey2 h2, if_pos (by omega)] at h
      exact h
  · rw [if_neg (by simpa using h1)]
    unfold ref02_Cmp_j2
    rw [if_neg (by simp), if_pos (by simp only [decide_eq_true_eq]; omega)]
    by_cases h2 : q.num < 0
    · rw [show decide ((fr q).1 < 0) = true by simpa using h2]
      unfold ref02_Cmp_j3
      rw [if_pos rfl]
      have := c2 h2
      rw [ex2 h1, ey1 h2, if_neg (by omega), if_pos (by omega)] at h
      exact h
    · rw [show decide ((fr q).1 < 0) = false by simpa using h2]
      rw [j3]
      rw [ex2 h1, ey2 h2] at h
      rw [show decide (p.num ≥ 0) = true from decide_eq_true (by omega)]
      by_cases h3 : x = y
      · rw [if_pos h3]; rw [if_neg (by omega), if_neg (by omega)] at h; exact h
      · rw [if_neg h3]
        by_cases h4 : x < y
        · rw [if_pos (by simpa using h4)]; rw [if_pos (by omega)] at h; exact h
        · rw [if_neg (by simpa using h4)]; rw [if_neg (by omega), if_pos (by omega)] at h; exact h
end Go.Proofs.YtieeiiibamkbmaaGreat.Am
